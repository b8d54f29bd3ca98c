/- What came in is never written, and no run looks at whether it could be: functions that write to objects of their own leave all others alone. Own work; no condition. | The rules of operations in short form: what a side condition wants is found by itself. Own work; no condition. | Short rules, continued: appends to a row of one's own, the first elements of a row; contracts that leave all as it was. Own work; no condition. | From a contract over abstract memory to the call in the world: rows that came in. Own work; no condition. | The library's sort, its collecting of an iterator's values, and the iterator of a map's keys, at this program's numbers. Own work, printed by a program of this work; no condition. | Loops over functions: the rules. Own work; no condition. | Bytes, strings and unsigned numbers: the rules. Own work; no condition. | Maps, fields of values, deferred calls, functions shown by hand: the rules. Own work; no condition. | Loops over maps, in functions that are shown by hand: whatever comes next, the round is the abstract machine's. Own work; no condition. | What this program's types are to the abstract machine. Printed by a program of this work; no condition. | What a disk uses: the sum over its files, in whatever order they come. Own work; no condition. | All bytes of a disk's files become durable, in whatever order. Own work; no condition. | Numbers, slices of bytes, copies. Own work; no condition. | Disks in plain lists. Own work; no condition. -/
import Derived.Test.YtahaplbdhgfobaaDiskCopiesM1
import Derived.Test.YtahaplbdhgfobaaDiskCopiesM2
import Derived.WalkKit
import Derived.ProofKit
import Derived.OpenShut
import Derived.ShutString
import Derived.ChangeOld
import Derived.Below
import Derived.SizedLaws
import Derived.ChangeSlices
import Derived.Carry
import Derived.Shelf.SlIterI.Sorted
import Derived.Shelf.SortM.Plain
import Derived.Shelf.SortM.SortNone
import Derived.Test.YtahaplbdhgfobaaChecked
import Derived.Laws.Strings
import Derived.Maps.RangeRun
set_option linter.unusedVariables false
set_option linter.unusedSimpArgs false
namespace Go.Proofs.Ytahaplbdhgfobaa.Eng

variable {P : Program}

/-! ### 1. What an operation does to the heap -/
theorem aop_cases {o : Oper} {s : ASt} {v : Value} {h' : AHeap} (hv : aop P o s = some (v, h')) : h' = s.h ∨ (∃ sz c, h' = s.h.new (.cells sz false s.h.n none 0 c)) ∨
    (∃ b sz f k c c', s.h.o b = .cells sz false f none k c ∧ h' = s.h.set b (.cells sz false f none (k + 1) c')) ∨
    (∃ b sz f k c cn, s.h.o b = .cells sz false f none k c ∧ h' = (s.h.set b (.cells sz false f (some s.h.n) k c)).new (.cells sz false f none 0 cn)) := by
  unfold aop at hv
  simp only at hv
  have mp : ∀ {α : Type} {x : Option α} {u : α} {g : AHeap}, x.map (·, s.h) = some (u, g) → g = s.h := fun hx => by
    obtain ⟨_, rfl⟩ := map_pair hx; rfl
  split at hv
  all_goals first
    | exact .inl (mp hv)
    | (injection hv with hv; injection hv with h1 h2; exact .inl h2.symm)
    | skip
  · split at hv
    · injection hv with hv; injection hv with h1 h2; exact .inl h2.symm
    · injection hv with hv; injection hv with h1 h2; exact .inl h2.symm
    · cases hv
  · rename_i t _
    cases hz : zeroOf P t with
    | none => rw [hz] at hv; cases hv
    | some z => rw [hz] at hv; injection hv with hv; injection hv with h1 h2; exact .inr (.inl ⟨_, _, h2.symm⟩)
  · split at hv
    · injection hv with hv; injection hv with h1 h2; exact .inr (.inl ⟨_, _, h2.symm⟩)
    · cases hv
  · unfold litA at hv
    split at hv
    · split at hv
      · split at hv
        · injection hv with hv; injection hv with h1 h2; exact .inr (.inl ⟨_, _, h2.symm⟩)
        · cases hv
      · cases hv
    · cases hv
  · split at hv
    · exact .inl (mp hv)
    · cases hv
  · rename_i t x y _
    split at hv
    · rename_i b off _
      cases hs : storeA P s.h t b off (s.ev y) with
      | none => rw [hs] at hv; cases hv
      | some g =>
        rw [hs] at hv; injection hv with hv; injection hv with h1 h2; subst h2
        unfold storeA at hs
        split at hs
        · rename_i sz f k c ho
          split at hs
          · injection hs with hs; exact .inr (.inr (.inl ⟨_, _, _, _, _, _, ho, hs.symm⟩))
          · cases hs
        · cases hs
    · cases hv
  · injection hv with hv; injection hv with h1 h2; exact .inr (.inl ⟨_, _, h2.symm⟩)
  · split at hv
    · injection hv with hv; injection hv with h1 h2; exact .inl h2.symm
    · cases hv
  · split at hv
    · split at hv
      · unfold makeA at hv
        split at hv
        · split at hv
          · split at hv
            · injection hv with hv; injection hv with h1 h2; exact .inr (.inl ⟨_, _, h2.symm⟩)
            · cases hv
          · cases hv
        · cases hv
      · cases hv
    · cases hv
  · split at hv
    · exact .inl (mp hv)
    · cases hv
  · split at hv
    · exact .inl (mp hv)
    · split at hv
      · unfold bytA at hv
        split at hv
        · injection hv with hv; injection hv with h1 h2; exact .inr (.inl ⟨_, _, h2.symm⟩)
        · cases hv
      · exact .inl (mp hv)
  · split at hv
    · exact .inl (mp hv)
    · cases hv
  · split at hv
    · split at hv
      · unfold appendA at hv
        split at hv
        · cases hv
        split at hv
        case h_2 => cases hv
        split at hv
        case h_2 => cases hv
        split at hv
        · cases hv
        split at hv
        · split at hv
          · injection hv with hv; injection hv with h1 h2; exact .inl h2.symm
          · split at hv
            · injection hv with hv; injection hv with h1 h2; exact .inr (.inl ⟨_, _, h2.symm⟩)
            · cases hv
        · split at hv
          · rename_i ho
            split at hv
            · rename_i hc
              obtain rfl := hc.1
              injection hv with hv; injection hv with h1 h2; exact .inr (.inr (.inr ⟨_, _, _, _, _, _, ho, h2.symm⟩))
            · cases hv
          · cases hv
        · cases hv
      · cases hv
    · cases hv
  all_goals cases hv

def isRo : AObj → Bool
  | .cells _ true _ _ _ _ => true
  | .dead => true
  | _ => false

def Stay (h h' : AHeap) : Prop := h.n ≤ h'.n ∧ ∀ b, b < h.n → isRo (h.o b) = true → h'.o b = h.o b

theorem Stay.refl (h : AHeap) : Stay h h := ⟨Nat.le_refl _, fun _ _ _ => rfl⟩
theorem Stay.trans {a b c : AHeap} (h1 : Stay a b) (h2 : Stay b c) : Stay a c := ⟨Nat.le_trans h1.1 h2.1, fun x hx hr => by
  have e := h1.2 x hx hr
  rw [h2.2 x (Nat.lt_of_lt_of_le hx h1.1) (by rw [e]; exact hr), e]⟩

theorem aop_stay {o : Oper} {s : ASt} {v : Value} {h' : AHeap} (hv : aop P o s = some (v, h')) : Stay s.h h' := by
  rcases aop_cases hv with rfl | ⟨sz, c, rfl⟩ | ⟨b, sz, f, k, c, c', ho, rfl⟩ | ⟨b, sz, f, k, c, cn, ho, rfl⟩
  · exact Stay.refl _
  · exact ⟨Nat.le_succ _, fun x hx _ => by simp only [AHeap.new]; rw [if_neg (by omega)]⟩
  · refine ⟨Nat.le_refl _, fun x hx hr => ?_⟩
    simp only [AHeap.set]
    rw [if_neg]
    intro e
    rw [e, ho] at hr
    cases hr
  · refine ⟨Nat.le_succ _, fun x hx hr => ?_⟩
    show (if x = s.h.n then _ else if x = b then _ else s.h.o x) = s.h.o x
    rw [if_neg (by omega), if_neg]
    intro e
    rw [e, ho] at hr
    cases hr

theorem sealed_stay {h h' h2 : AHeap} (hs : Sealed h h' h2) (h1 : Stay h h') : Stay h h2 := by
  refine ⟨by rw [hs.n]; exact h1.1, fun x hx hr => ?_⟩
  obtain ⟨b, sz, f, k, c, cn, hb, hb', hn', h2n, h2o⟩ := hs
  rw [h2o, if_neg, if_neg (by omega)]
  · exact h1.2 x hx hr
  · intro e
    rw [e, hb] at hr
    cases hr

theorem HStep.stay {h h' : AHeap} (hs : HStep h h') : Stay h h' := by
  rcases hs with rfl | ⟨sz, c, rfl⟩ | ⟨b, sz, f, k, c, c', ho, rfl⟩
  · exact Stay.refl _
  · exact ⟨Nat.le_succ _, fun x hx _ => by simp only [AHeap.new]; rw [if_neg (by omega)]⟩
  · refine ⟨Nat.le_refl _, fun x hx hr => ?_⟩
    simp only [AHeap.set]
    rw [if_neg]
    intro e
    rw [e, ho] at hr
    cases hr

theorem mop_step {o : Oper} {s : ASt} {v : Value} {h' : AHeap} (hv : mop P o s = some (v, h')) : HStep s.h h' := .inr (.inr (mop_set hv))

def StayJ : J → Prop
  | .code _ s _ s' => Stay s.h s'.h
  | .codeD _ s s' _ _ => Stay s.h s'.h
  | .ops _ _ _ _ _ s s' => Stay s.h s'.h
  | .call _ _ h _ h' => Stay h h'

theorem stayJ {dr : Array Oper → (Nat → Bool) → (Nat → Bool) → Prop} {ρ : Rho} {j : J} (hb : Big P dr ρ j) : StayJ j := by
  induction hb with
  | skip | label | exit | ret | nil => exact Stay.refl _
  | region _ _ ih => exact ih
  | draw _ _ _ ih => exact ih
  | seq_n _ _ ih1 ih2 => exact Stay.trans ih1 ih2
  | seq_x _ _ ih => exact ih
  | cond_t _ _ _ ih => exact ih
  | cond_f _ _ _ ih => exact ih
  | block_n _ _ ih => exact ih
  | block_x _ ih => exact ih
  | loop_n _ _ ih1 ih2 => exact Stay.trans ih1 ih2
  | loop_x _ _ ih => exact ih
  | scope _ ih => exact ih
  | op _ _ ha _ _ _ _ ih =>
    have h2 : Stay _ _ := ih
    rw [put_h] at h2
    exact (aop_stay ha).trans h2
  | opmap _ _ ha _ _ _ _ ih =>
    have h2 : Stay _ _ := ih
    rw [put_h] at h2
    exact (mop_step ha).stay.trans h2
  | opseal _ _ ha hs _ _ _ _ ih =>
    have h2 : Stay _ _ := ih
    rw [put_h] at h2
    exact (sealed_stay hs (aop_stay ha)).trans h2
  | oplazy _ _ _ _ _ _ _ _ _ ih | opearly _ _ _ _ _ _ _ _ _ ih =>
    have h2 : Stay _ _ := ih
    rw [put_h] at h2
    exact h2
  | opcall _ _ _ _ _ _ _ _ ih1 ih2 =>
    have h2 : Stay _ _ := ih2
    rw [put_h] at h2
    exact Stay.trans ih1 h2
  | opskip _ _ _ ih =>
    have h2 : Stay _ _ := ih
    rw [put_h] at h2
    exact h2
  | call _ _ _ _ _ ih => exact ih
  | direct hd => exact hd.1.stay
  | dseq _ _ ih1 ih2 => exact Stay.trans ih1 ih2
  | dhere _ _ _ _ _ _ _ _ _ _ _ ih1 ih2 => exact Stay.trans ih1 ih2
  | calld _ _ _ _ _ _ _ _ _ _ ih1 ih2 => exact Stay.trans ih1 ih2
  | @rangeFunc ρ g ps assign body s gf lb v h' _ _ _ _ _ _ ih =>
    have h2 : Stay s.h.bump h' := ih
    exact ⟨Nat.le_trans (Nat.le_succ _) h2.1, fun b hb hr => h2.2 b (Nat.lt_succ_of_lt hb) hr⟩
  | opyield _ _ _ _ _ _ _ _ _ _ _ _ ih1 ih2 ih3 =>
    have h3 : Stay _ _ := ih3
    rw [put_h] at h3
    exact Stay.trans ih1 (Stay.trans ih2 h3)

/-! ### 2. A run from a heap of which less may be written -/
variable {F : Nat → Bool} {h h' : AHeap}

theorem un_cells {b sz ro f st k c} (ho : h.o b = .cells sz ro f st k c) : ∃ ro', (h.un F).o b = .cells sz ro' f st k c := by
  simp only [AHeap.un, ho]
  cases F b
  · exact ⟨ro, rfl⟩
  · exact ⟨false, rfl⟩

theorem un_own {b sz f st k c} (ho : h.o b = .cells sz false f st k c) : (h.un F).o b = .cells sz false f st k c := by
  simp only [AHeap.un, ho]
  cases F b <;> rfl

theorem un_dead {b} (ho : h.o b = .dead) : (h.un F).o b = .dead := by
  simp only [AHeap.un, ho]
  cases F b <;> rfl

theorem un_same {b} (he : h'.o b = h.o b) : (h'.un F).o b = (h.un F).o b := by simp only [AHeap.un, he]

theorem un_sameO {b} (he : SameO (h'.o b) (h.o b)) : SameO ((h'.un F).o b) ((h.un F).o b) := by
  have key : ∀ (h : AHeap) sz c, (∃ ro f k, (h.un F).o b = .cells sz ro f none k c) ↔ ∃ ro f k, h.o b = .cells sz ro f none k c := fun h sz c => by
    cases ho : h.o b with
    | dead =>
      rw [un_dead ho]
    | cells sz' ro' f' st' k' c' =>
      obtain ⟨ro2, e⟩ := un_cells (F := F) ho
      rw [e]
      constructor
      · rintro ⟨_, _, _, q⟩
        injection q with q1 _ _ q4 _ q6
        exact ⟨_, _, _, by rw [q1, q4, q6]⟩
      · rintro ⟨_, _, _, q⟩
        injection q with q1 _ _ q4 _ q6
        exact ⟨_, _, _, by rw [q1, q4, q6]⟩
  exact fun sz c => (key h' sz c).trans ((he sz c).trans (key h sz c).symm)

theorem un_rd (b : Nat) : (h.un F).rd b = h.rd b := by
  unfold AHeap.rd
  cases ho : h.o b with
  | dead => rw [un_dead ho]
  | cells sz ro f st k c =>
    obtain ⟨ro', e⟩ := un_cells (F := F) ho
    rw [e]
    cases st with
    | none => rfl
    | some m =>
      simp only
      cases hm : h.o m with
      | dead => rw [un_dead hm]
      | cells sz2 ro2 f2 st2 k2 c2 =>
        obtain ⟨ro3, e2⟩ := un_cells (F := F) hm
        rw [e2]
        cases st2 <;> cases k2 <;> rfl

theorem un_new {sz f st k c} : (h.new (.cells sz false f st k c)).un F = (h.un F).new (.cells sz false f st k c) := by
  unfold AHeap.un AHeap.new
  simp only [AHeap.mk.injEq, true_and]
  funext b
  by_cases e : b = h.n
  · rw [if_pos e, if_pos e]; cases F b <;> rfl
  · rw [if_neg e, if_neg e]

theorem un_set {b sz f st k c} : (h.set b (.cells sz false f st k c)).un F = (h.un F).set b (.cells sz false f st k c) := by
  unfold AHeap.un AHeap.set
  simp only [AHeap.mk.injEq, true_and]
  funext x
  by_cases e : x = b
  · rw [if_pos e, if_pos e]; cases F x <;> rfl
  · rw [if_neg e, if_neg e]

theorem un_n : (h.un F).n = h.n := rfl

theorem un_load {t : TypeId} {b off : Nat} : loadA P (h.un F) t b off = loadA P h t b off := by unfold loadA; rw [un_rd]

theorem un_src {sz : Nat} {v : Value} : srcA (h.un F) sz v = srcA h sz v := by
  unfold srcA
  split <;> first | rfl | rw [un_rd]

theorem un_str {v : Value} : strA (h.un F) v = strA h v := by
  unfold strA
  split
  · rw [un_src]
  · rfl

theorem un_slice {t : TypeId} {x : Value} {lo hi : Option Value} : sliceA P (h.un F) t x lo hi = sliceA P h t x lo hi := by
  unfold sliceA
  split
  · rfl
  · rfl
  · rename_i b off n c
    cases ho : h.o b with
    | dead => rw [un_dead ho]
    | cells sz ro f st k c =>
      obtain ⟨ro', e⟩ := un_cells (F := F) ho
      rw [e]
      cases (elemOf P t).bind (szOf P) <;> cases boundA lo 0 <;> cases boundA hi n <;> rfl
  · rfl

theorem un_store {t : TypeId} {b off : Nat} {v : Value} {g : AHeap} (hs : storeA P h t b off v = some g) : storeA P (h.un F) t b off v = some (g.un F) := by
  unfold storeA at hs
  split at hs
  · rename_i sz f k c ho
    split at hs
    · rename_i hc
      injection hs with hs
      unfold storeA
      rw [un_own ho]
      simp only
      rw [if_pos hc, ← hs, un_set]
    · cases hs
  · cases hs

theorem un_append {t : TypeId} {s x v : Value} {g : AHeap} (hs : appendA P h t s x = some (v, g)) : appendA P (h.un F) t s x = some (v, g.un F) := by
  unfold appendA at hs ⊢
  simp only [un_src]
  split at hs
  · cases hs
  split at hs
  case h_2 => cases hs
  split at hs
  case h_2 => cases hs
  split at hs
  · cases hs
  rename_i hz
  simp only [if_neg hz]
  split at hs
  · split at hs
    · rename_i h0
      rw [if_pos h0]
      injection hs with hs; injection hs with h1 h2
      rw [h1, h2]
    · rename_i h0
      rw [if_neg h0]
      split at hs
      · rename_i hc
        rw [if_pos hc]
        injection hs with hs; injection hs with h1 h2
        rw [← h1, ← h2, un_new]
        rfl
      · cases hs
  · split at hs
    · rename_i ho
      split at hs
      · rename_i hc
        rw [un_own ho]
        simp only
        rw [if_pos hc]
        injection hs with hs; injection hs with h1 h2
        rw [← h1, ← h2, un_new, un_set]
        rfl
      · cases hs
    · cases hs
  · cases hs

theorem un_make {t : TypeId} {n v : Value} {g : AHeap} (hs : makeA P h t n = some (v, g)) : makeA P (h.un F) t n = some (v, g.un F) := by
  unfold makeA at hs ⊢
  split at hs
  · split at hs
    · split at hs
      · rename_i hc
        rw [if_pos hc]
        injection hs with hs; injection hs with h1 h2
        rw [← h1, ← h2, un_new]
        rfl
      · cases hs
    · cases hs
  · cases hs

theorem un_lit {t : TypeId} {len : Nat} {ps : Array (Nat × Value)} {v : Value} {g : AHeap} (hs : litA P h t len ps = some (v, g)) : litA P (h.un F) t len ps = some (v, g.un F) := by
  unfold litA at hs ⊢
  split at hs
  · split at hs
    · split at hs
      · rename_i hc
        rw [if_pos hc]
        injection hs with hs; injection hs with h1 h2
        rw [← h1, ← h2, un_new]
        rfl
      · cases hs
    · cases hs
  · cases hs

theorem un_newA {cs : Array Value} : newA (h.un F) cs = ((newA h cs).1, (newA h cs).2.un F) := by
  unfold newA
  simp only [un_new]
  rfl

def ASt.un (F : Nat → Bool) (s : ASt) : ASt := { s with h := s.h.un F }

theorem un_ev (s : ASt) : (s.un F).ev = s.ev := ev_with s _
theorem un_put (s : ASt) (dst : Option Tmp) (v : Value) (g : AHeap) : (s.put dst v g).un F = (s.un F).put dst v (g.un F) := by cases dst <;> rfl

theorem un_lookup {t : TypeId} {x i : Value} {ok : Bool} : lookupA P (h.un F) t x i ok = lookupA P h t x i ok := by
  unfold lookupA
  simp only [un_rd]

theorem un_aop {o : Oper} {s : ASt} {v : Value} (hv : aop P o s = some (v, h')) : aop P o (s.un F) = some (v, h'.un F) := by
  have mp : ∀ {α : Type} {x : Option α} {u : α} {g : AHeap}, x.map (·, s.h) = some (u, g) → x.map (·, s.h.un F) = some (u, g.un F) := fun hx => by
    obtain ⟨h1, h2⟩ := map_pair hx; subst h2; rw [h1]; rfl
  obtain ⟨dst, op, type, pos, after, guard⟩ := o
  unfold aop at hv ⊢
  simp only [un_ev] at hv ⊢
  have hh : (s.un F).h = s.h.un F := rfl
  rw [hh]
  cases op with
  | call c =>
    obtain ⟨callee, args, argTypes⟩ := c
    cases callee with
    | builtin b =>
      cases b <;> first
        | exact mp hv
        | (simp only at hv ⊢
           split at hv
           · first
             | exact mp hv
             | (split at hv
                · rename_i hc
                  simp only [if_pos hc]
                  exact un_append hv
                · cases hv)
           · cases hv)
    | _ => first | exact mp hv | cases hv
  | makeFunc fn first captured =>
    cases fn <;> first
      | exact mp hv
      | (injection hv with hv; injection hv with h1 h2; subst h1 h2; rfl)
  | pick c a b => simp only at hv ⊢; split at hv <;> first | (injection hv with hv; injection hv with h1 h2; subst h1 h2; rfl) | cases hv
  | nilCheck x => simp only at hv ⊢; split at hv <;> first | (injection hv with hv; injection hv with h1 h2; subst h1 h2; rfl) | cases hv
  | extract x i => simp only at hv ⊢; split at hv <;> first | exact mp hv | cases hv
  | convert t u x =>
    simp only at hv ⊢
    split at hv
    · rename_i hc; rw [if_pos hc, un_str]; exact mp hv
    · rename_i hc
      split at hv
      · rename_i hc2
        rw [if_neg hc, if_pos hc2]
        unfold bytA at hv ⊢
        split at hv
        · injection hv with hv; injection hv with h1 h2
          rw [← h1, ← h2, un_new]
          rfl
        · cases hv
      · rename_i hc2; rw [if_neg hc, if_neg hc2]; exact mp hv
  | move x => injection hv with hv; injection hv with h1 h2; subst h1 h2; rfl
  | assign x => injection hv with hv; injection hv with h1 h2; subst h1 h2; rfl
  | alloc t =>
    simp only at hv ⊢
    obtain ⟨z, hz, e⟩ := Option.map_eq_some_iff.1 hv
    rw [hz, Option.map_some, un_newA, e]
  | box t x =>
    simp only at hv ⊢
    split at hv
    · rename_i hc
      rw [if_pos hc, un_newA]
      injection hv with hv
      rw [hv]
    · cases hv
  | buildSlice t len parts => exact un_lit hv
  | load t x =>
    simp only at hv ⊢
    split at hv
    · rw [un_load]; exact mp hv
    · cases hv
  | store t x y =>
    simp only at hv ⊢
    split at hv
    · obtain ⟨g, hg, e⟩ := Option.map_eq_some_iff.1 hv
      injection e with e1 e2
      subst e1 e2
      rw [un_store hg]
      rfl
    · cases hv
  | makeSlice t n c =>
    simp only at hv ⊢
    split at hv
    · split at hv
      · rename_i hc
        rw [if_pos hc]
        exact un_make hv
      · cases hv
    · cases hv
  | slice t x lo hi mx =>
    cases mx with
    | none => simp only at hv ⊢; rw [un_slice]; exact mp hv
    | some _ => exact mp hv
  | lookup t x i ok => simp only at hv ⊢; rw [un_lookup]; exact mp hv
  | makeMap t r =>
    cases r with
    | none => simp only at hv ⊢; injection hv with hv; injection hv with h1 h2; subst h1 h2; rw [un_new]; rfl
    | some _ => exact mp hv
  | _ => exact mp hv

def J.un (F : Nat → Bool) : J → J
  | .codeD c s s' g lb => .codeD c (s.un F) (s'.un F) g lb
  | .code c s e s' => .code c (s.un F) e (s'.un F)
  | .ops o q l Z t s s' => .ops o q l Z t (s.un F) (s'.un F)
  | .call f a h v h' => .call f a (h.un F) v (h'.un F)

theorem un_quiet (hq : Quiet h h') : Quiet (h.un F) (h'.un F) := ⟨hq.1, fun b hb => by
  rcases hq.2 b hb with q | ⟨sz, f, k, c, m, q1, q2, q3⟩
  · exact .inl (un_same q)
  · exact .inr ⟨sz, f, k, c, m, un_own q1, un_own q2, q3⟩⟩

theorem un_old (hq : Old h h') : Old (h.un F) (h'.un F) := ⟨hq.1, fun b hb => un_same (hq.2 b hb)⟩

theorem un_results {fn : Func} {s : ASt} : resultsA P fn (s.un F) = resultsA P fn s := by
  unfold resultsA
  congr 1
  funext r
  cases r with
  | tmp t => rfl
  | cell a t =>
    have e : ∀ x : Value, (match x with | .pointer (some ⟨b, off, none⟩) => loadA P (s.h.un F) t b off | _ => none) = (match x with | .pointer (some ⟨b, off, none⟩) => loadA P s.h t b off | _ => none) := by
      intro x
      split
      · exact un_load
      · rfl
    exact e (s.t a)

theorem un_callee {o : Oper} {s : ASt} : acallee P o (s.un F) = acallee P o s := by
  unfold acallee
  simp only [un_ev]

/-- Below a number all is written no more. -/
def RoB (n0 : Nat) (h : AHeap) : Prop := n0 ≤ h.n ∧ ∀ b, b < n0 → isRo (h.o b) = true
theorem RoB.stay {n0 : Nat} {a b : AHeap} (h : RoB n0 a) (hs : Stay a b) : RoB n0 b := ⟨Nat.le_trans h.1 hs.1, fun x hx => by rw [hs.2 x (Nat.lt_of_lt_of_le hx h.1) (h.2 x hx)]; exact h.2 x hx⟩
def J.st : J → AHeap
  | .codeD _ s _ _ _ => s.h
  | .code _ s _ _ => s.h
  | .ops _ _ _ _ _ s _ => s.h
  | .call _ _ h _ _ => h
def J.en : J → AHeap
  | .codeD _ _ s _ _ => s.h
  | .code _ _ _ s => s.h
  | .ops _ _ _ _ _ _ s => s.h
  | .call _ _ _ _ h => h

theorem un_sealed {n0 : Nat} {h2 : AHeap} (hF : ∀ b, F b = true → b < n0) (hr : RoB n0 h) (hs : Sealed h h' h2) : Sealed (h.un F) (h'.un F) (h2.un F) := by
  obtain ⟨b, sz, f, k, c, cn, hb, hb', hn', h2n, h2o⟩ := hs
  have fb : F b = false := by
    cases e : F b with
    | false => rfl
    | true => have := hr.2 b (hF b e); rw [hb] at this; cases this
  have fn : F h.n = false := by
    cases e : F h.n with
    | false => rfl
    | true => have := hF _ e; have := hr.1; omega
  refine ⟨b, sz, f, k, c, cn, un_own hb, un_own hb', un_own hn', h2n, fun x => ?_⟩
  show (bif F x then unro (h2.o x) else h2.o x) = if x = b then _ else if x = h.n then _ else bif F x then unro (h'.o x) else h'.o x
  rw [h2o]
  by_cases q1 : x = b
  · rw [if_pos q1, if_pos q1, q1, fb]; rfl
  · rw [if_neg q1, if_neg q1]
    by_cases q2 : x = h.n
    · rw [if_pos q2, if_pos q2, q2, fn]; rfl
    · rw [if_neg q2, if_neg q2]

theorem un_un (F G : Nat → Bool) (h : AHeap) : (h.un F).un G = h.un (fun b => F b || G b) := by
  unfold AHeap.un
  simp only [AHeap.mk.injEq, true_and]
  funext b
  cases F b <;> cases G b <;> simp
  · cases h.o b <;> rfl

theorem un_step (hs : HStep h h') : HStep (h.un F) (h'.un F) := by
  rcases hs with rfl | ⟨sz, c, rfl⟩ | ⟨b, sz, f, k, c, c', ho, rfl⟩
  · exact .inl rfl
  · exact .inr (.inl ⟨sz, c, un_new⟩)
  · exact .inr (.inr ⟨b, sz, f, k, c, c', un_own ho, un_set⟩)

theorem un_direct {f : FuncId} {args : Array Value} {v : Value} (hd : Direct P f args h v h') : Direct P f args (h.un F) v (h'.un F) :=
  ⟨un_step hd.1, fun G ρ => by rw [un_un, un_un]; exact hd.2 _ ρ⟩

theorem un_put1 {t : TypeId} {x i v : Value} {g : AHeap} (hs : putA P h t x i v = some g) : putA P (h.un F) t x i v = some (g.un F) := by
  unfold putA at hs ⊢
  split at hs
  · rename_i e j k b he
    split at hs
    · rename_i sz f n ck c ho
      obtain ⟨c', h1, rfl⟩ := Option.map_eq_some_iff.1 hs
      simp only [un_own ho, h1, Option.map_some, un_set]
    · cases hs
  · cases hs

theorem un_del1 {t : TypeId} {x i : Value} {g : AHeap} (hs : delA P h t x i = some g) : delA P (h.un F) t x i = some (g.un F) := by
  unfold delA at hs ⊢
  split at hs
  · rename_i e j k b he
    split at hs
    · rename_i sz f n ck c ho
      obtain ⟨c', h1, rfl⟩ := Option.map_eq_some_iff.1 hs
      simp only [un_own ho, h1, Option.map_some, un_set]
    · cases hs
  · cases hs

theorem un_mop {o : Oper} {s : ASt} {v : Value} (hv : mop P o s = some (v, h')) : mop P o (s.un F) = some (v, h'.un F) := by
  obtain ⟨dst, op, type, pos, after, guard⟩ := o
  unfold mop at hv ⊢
  simp only [un_ev] at hv ⊢
  split at hv
  · obtain ⟨g, hg, hv⟩ := Option.map_eq_some_iff.1 hv
    injection hv with e1 e2; subst e1 e2
    have := un_put1 (F := F) hg
    rw [show (s.un F).h = s.h.un F from rfl, this]; rfl
  · rename_i args argTypes
    split at hv
    · rename_i m k t u ha ht
      obtain ⟨g, hg, hv⟩ := Option.map_eq_some_iff.1 hv
      injection hv with e1 e2; subst e1 e2
      have := un_del1 (F := F) hg
      rw [show (s.un F).h = s.h.un F from rfl, this]; rfl
    · cases hv
  · cases hv

theorem big_un (F : Nat → Bool) {n0 : Nat} (hF : ∀ b, F b = true → b < n0) {dr : Array Oper → (Nat → Bool) → (Nat → Bool) → Prop} {ρ : Rho} {j : J} (hb : Big P dr ρ j) : RoB n0 j.st → Big P dr ρ (j.un F) := by
  induction hb with
  | skip => exact fun _ => .skip
  | label => exact fun _ => .label
  | exit => exact fun _ => .exit
  | ret => exact fun _ => .ret
  | region h1 _ ih => exact fun hr => .region h1 (ih hr)
  | draw h1 h2 _ ih => exact fun hr => .draw h1 h2 (ih hr)
  | seq_n b1 _ ih1 ih2 => exact fun hr => .seq_n (ih1 hr) (ih2 (hr.stay (stayJ b1)))
  | seq_x _ h ih => exact fun hr => .seq_x (ih hr) h
  | cond_t h1 h2 _ ih => exact fun hr => .cond_t (by rw [un_ev]; exact h1) h2 (ih hr)
  | cond_f h1 h2 _ ih => exact fun hr => .cond_f (by rw [un_ev]; exact h1) h2 (ih hr)
  | block_n _ h ih => exact fun hr => .block_n (ih hr) h
  | block_x _ ih => exact fun hr => .block_x (ih hr)
  | loop_n b1 _ ih1 ih2 => exact fun hr => .loop_n (ih1 hr) (ih2 (hr.stay (stayJ b1)))
  | loop_x _ h ih => exact fun hr => .loop_x (ih hr) h
  | scope _ ih => exact fun hr => .scope (ih hr)
  | nil => exact fun _ => .nil
  | op h1 h2 ha h3 h4 h5 _ ih =>
    intro hr
    refine .op h1 h2 (un_aop ha) (fun hm => un_quiet (h3 hm)) h4 (fun b hb => un_same (h5 b hb)) ?_
    rw [← un_put]
    exact ih (by show RoB n0 (ASt.put _ _ _ _).h; rw [put_h]; exact hr.stay (aop_stay ha))
  | opseal h1 h2 ha hs hmq h4 h5 _ ih =>
    intro hr
    refine .opseal h1 h2 (un_aop ha) (un_sealed hF hr hs) hmq h4 (fun b hb => un_same (h5 b hb)) ?_
    rw [← un_put]
    exact ih (by show RoB n0 (ASt.put _ _ _ _).h; rw [put_h]; exact hr.stay (sealed_stay hs (aop_stay ha)))
  | opmap h1 h2 ha h3 h4 h5 _ ih =>
    intro hr
    refine .opmap h1 h2 (un_mop ha) h3 h4 (fun b hb => un_same (h5 b hb)) ?_
    rw [← un_put]
    exact ih (by show RoB n0 (ASt.put _ _ _ _).h; rw [put_h]; exact hr.stay (mop_step ha).stay)
  | direct hd => exact fun _ => .direct (un_direct hd)
  | dseq b1 _ ih1 ih2 => exact fun hr => .dseq (ih1 hr) (ih2 (RoB.stay hr (stayJ b1)))
  | dhere h1 h2 h3 h4 h5 h6 h7 b1 h8 _ h9 ih1 ih2 => exact fun hr => .dhere h1 h2 h3 h4 h5 h6 h7 (ih1 hr) (by rw [un_ev]; exact h8) (ih2 (RoB.stay hr (stayJ b1))) h9
  | @calld _ _ _ _ _ _ s' _ _ _ _ _ s4 _ _ h1 h2 b1 h3 h4 h5 _ h6 h7 h8 ih1 ih2 => exact fun hr => .calld h1 h2 (ih1 hr) h3 h4 h5 (ih2 (RoB.stay hr (stayJ b1))) h6 (by rw [un_results]; exact h7) (by rw [← h8]; exact un_results (F := F) (s := { s' with h := s4.h }))
  | oplazy h1 h2 h3 h4 h5 h6 h7 h8 _ ih =>
    intro hr
    obtain ⟨ro', e⟩ := un_cells (F := F) h5
    refine .oplazy h1 h2 h3 (by rw [un_ev]; exact h4) e (un_aop h6) h7 h8 ?_
    have := ih (by show RoB n0 (ASt.put _ _ _ _).h; rw [put_h]; exact hr)
    simp only [J.un, un_put] at this
    exact this
  | opearly h1 h2 h3 h4 h5 h6 h7 h8 _ ih =>
    intro hr
    obtain ⟨ro', e⟩ := un_cells (F := F) h5
    refine .opearly h1 h2 h3 (by rw [un_ev]; exact h4) e (un_aop h6) h7 h8 ?_
    have := ih (by show RoB n0 (ASt.put _ _ _ _).h; rw [put_h]; exact hr)
    simp only [J.un, un_put] at this
    exact this
  | opcall h1 h2 h3 bc h4 h5 h6 _ ih1 ih2 =>
    intro hr
    refine .opcall h1 h2 (by rw [un_callee]; exact h3) (ih1 hr) (fun hm => un_old (h4 hm)) h5 (fun b hb => un_sameO (h6 b hb)) ?_
    rw [← un_put]
    exact ih2 (by show RoB n0 (ASt.put _ _ _ _).h; rw [put_h]; exact hr.stay (stayJ bc))
  | opskip h1 h2 _ ih =>
    intro hr
    refine .opskip h1 h2 ?_
    have := ih (by show RoB n0 (ASt.put _ _ _ _).h; rw [put_h]; exact hr)
    simp only [J.un, un_put] at this
    exact this
  | call h1 h2 _ h3 h4 ih => exact fun hr => .call h1 h2 (ih hr) h3 (by rw [un_results]; exact h4)
  | @rangeFunc ρ g ps assign body s gf lb v h' h1 h2 h3 h4 h5 _ ih => exact fun hr => .rangeFunc h1 h2 (by rw [un_ev]; exact h3) h4 h5 (ih ⟨Nat.le_succ_of_le hr.1, hr.2⟩)
  | opyield h1 h2 h3 h4 h5 h6 b1 b2 h7 h8 h9 _ ih1 ih2 ih3 =>
    intro hr
    have r1 := RoB.stay hr (stayJ b1)
    have r2 := RoB.stay r1 (stayJ b2)
    refine .opyield h1 h2 (by unfold yieldee at h3 ⊢; simp only [un_ev]; exact h3) h4 h5 h6 (ih1 hr) (ih2 r1) (fun hm => un_old (h7 hm)) h8 (fun b hb => un_same (h9 b hb)) ?_
    have := ih3 (by show RoB n0 (ASt.put _ _ _ _).h; rw [put_h]; exact r2)
    simp only [J.un, un_put] at this
    exact this

/-- What is new is of no old family. -/
def FamB (n0 : Nat) (h : AHeap) : Prop := ∀ b sz ro f st k c, n0 ≤ b → h.o b = .cells sz ro f st k c → n0 ≤ f

theorem FamB.aop {n0 : Nat} {o : Oper} {s : ASt} {v : Value} {h' : AHeap} (hv : aop P o s = some (v, h')) (hr : RoB n0 s.h) (hf : FamB n0 s.h) : FamB n0 h' := by
  rcases aop_cases hv with rfl | ⟨sz, c, rfl⟩ | ⟨b, sz, f, k, c, c', ho, rfl⟩ | ⟨b, sz, f, k, c, cn, ho, rfl⟩
  · exact hf
  · intro x sz1 ro1 f1 st1 k1 c1 hx hox
    simp only [AHeap.new] at hox
    split at hox
    · injection hox with _ _ e; rw [← e]; exact hr.1
    · exact hf x _ _ _ _ _ _ hx hox
  · intro x sz1 ro1 f1 st1 k1 c1 hx hox
    simp only [AHeap.set] at hox
    split at hox
    · rename_i e; subst e; injection hox with _ _ e; rw [← e]; exact hf x _ _ _ _ _ _ hx ho
    · exact hf x _ _ _ _ _ _ hx hox
  · have hbn : n0 ≤ b := by
      rcases Nat.lt_or_ge b n0 with q | q
      · have := hr.2 b q; rw [ho] at this; cases this
      · exact q
    have hfn := hf b _ _ _ _ _ _ hbn ho
    intro x sz1 ro1 f1 st1 k1 c1 hx hox
    change (if x = s.h.n then _ else if x = b then _ else s.h.o x) = _ at hox
    split at hox
    · injection hox with _ _ e; rw [← e]; exact hfn
    · split at hox
      · injection hox with _ _ e; rw [← e]; exact hfn
      · exact hf x _ _ _ _ _ _ hx hox

theorem FamB.step {n0 : Nat} {h h' : AHeap} (hf : FamB n0 h) (hs : HStep h h') (hr : RoB n0 h) : FamB n0 h' := by
  rcases hs with rfl | ⟨sz, c, rfl⟩ | ⟨b, sz, f, k, c, c', ho, rfl⟩
  · exact hf
  · intro x sz1 ro1 f1 st1 k1 c1 hx hox
    simp only [AHeap.new] at hox
    split at hox
    · injection hox with _ _ e; rw [← e]; exact hr.1
    · exact hf x _ _ _ _ _ _ hx hox
  · intro x sz1 ro1 f1 st1 k1 c1 hx hox
    simp only [AHeap.set] at hox
    split at hox
    · rename_i e; subst e; injection hox with _ _ e; rw [← e]; exact hf x _ _ _ _ _ _ hx ho
    · exact hf x _ _ _ _ _ _ hx hox

theorem FamB.sealed {n0 : Nat} {h h' h2 : AHeap} (hs : Sealed h h' h2) (hr : RoB n0 h) (hf0 : FamB n0 h) (hf : FamB n0 h') : FamB n0 h2 := by
  obtain ⟨b, sz, f, k, c, cn, hb, hb', hn', h2n, h2o⟩ := hs
  have hbn : n0 ≤ b := by
    rcases Nat.lt_or_ge b n0 with q | q
    · have := hr.2 b q; rw [hb] at this; cases this
    · exact q
  have hfn := hf0 b _ _ _ _ _ _ hbn hb
  intro x sz1 ro1 f1 st1 k1 c1 hx hox
  rw [h2o] at hox
  split at hox
  · injection hox with _ _ e; rw [← e]; exact hfn
  · split at hox
    · injection hox with _ _ e; rw [← e]; exact hfn
    · exact hf x _ _ _ _ _ _ hx hox

theorem famJ {n0 : Nat} {dr : Array Oper → (Nat → Bool) → (Nat → Bool) → Prop} {ρ : Rho} {j : J} (hb : Big P dr ρ j) : RoB n0 j.st → FamB n0 j.st → FamB n0 j.en := by
  induction hb with
  | skip | label | exit | ret | nil => exact fun _ h => h
  | region _ _ ih => exact ih
  | draw _ _ _ ih => exact ih
  | seq_n b1 _ ih1 ih2 => exact fun hr h => ih2 (RoB.stay hr (stayJ b1)) (ih1 hr h)
  | seq_x _ _ ih => exact ih
  | cond_t _ _ _ ih => exact ih
  | cond_f _ _ _ ih => exact ih
  | block_n _ _ ih => exact ih
  | block_x _ ih => exact ih
  | loop_n b1 _ ih1 ih2 => exact fun hr h => ih2 (RoB.stay hr (stayJ b1)) (ih1 hr h)
  | loop_x _ _ ih => exact ih
  | scope _ ih => exact ih
  | op _ _ ha _ _ _ _ ih => exact fun hr h => ih (by show RoB n0 (ASt.put _ _ _ _).h; rw [put_h]; exact hr.stay (aop_stay ha)) (by show FamB n0 (ASt.put _ _ _ _).h; rw [put_h]; exact h.aop ha hr)
  | opseal _ _ ha hs _ _ _ _ ih => exact fun hr h => ih (by show RoB n0 (ASt.put _ _ _ _).h; rw [put_h]; exact hr.stay (sealed_stay hs (aop_stay ha))) (by show FamB n0 (ASt.put _ _ _ _).h; rw [put_h]; exact FamB.sealed hs hr h (h.aop ha hr))
  | opmap _ _ ha _ _ _ _ ih => exact fun hr h => ih (by show RoB n0 (ASt.put _ _ _ _).h; rw [put_h]; exact hr.stay (mop_step ha).stay) (by show FamB n0 (ASt.put _ _ _ _).h; rw [put_h]; exact h.step (mop_step ha) hr)
  | direct hd => exact fun hr h => h.step hd.1 hr
  | dseq b1 _ ih1 ih2 => exact fun hr h => ih2 (RoB.stay hr (stayJ b1)) (ih1 hr h)
  | dhere _ _ _ _ _ _ _ b1 _ _ _ ih1 ih2 => exact fun hr h => ih2 (RoB.stay hr (stayJ b1)) (ih1 hr h)
  | calld _ _ b1 _ _ _ _ _ _ _ ih1 ih2 => exact fun hr h => ih2 (RoB.stay hr (stayJ b1)) (ih1 hr h)
  | oplazy _ _ _ _ _ _ _ _ _ ih | opearly _ _ _ _ _ _ _ _ _ ih => exact fun hr h => ih (by show RoB n0 (ASt.put _ _ _ _).h; rw [put_h]; exact hr) (by show FamB n0 (ASt.put _ _ _ _).h; rw [put_h]; exact h)
  | opcall _ _ _ bc _ _ _ _ ih1 ih2 => exact fun hr h => ih2 (by show RoB n0 (ASt.put _ _ _ _).h; rw [put_h]; exact RoB.stay hr (stayJ bc)) (by show FamB n0 (ASt.put _ _ _ _).h; rw [put_h]; exact ih1 hr h)
  | opskip _ _ _ ih => exact fun hr h => ih (by show RoB n0 (ASt.put _ _ _ _).h; rw [put_h]; exact hr) (by show FamB n0 (ASt.put _ _ _ _).h; rw [put_h]; exact h)
  | call _ _ _ _ _ ih => exact ih
  | rangeFunc _ _ _ _ _ _ ih => exact fun hr h => ih ⟨Nat.le_succ_of_le hr.1, hr.2⟩ h
  | opyield _ _ _ _ _ _ b1 b2 _ _ _ _ ih1 ih2 ih3 =>
    intro hr h
    have r1 := RoB.stay hr (stayJ b1)
    have r2 := RoB.stay r1 (stayJ b2)
    exact ih3 (by show RoB n0 (ASt.put _ _ _ _).h; rw [put_h]; exact r2) (by show FamB n0 (ASt.put _ _ _ _).h; rw [put_h]; exact ih2 r1 (ih1 hr h))

/-! ### 3. Functions that write to objects of their own alone -/
def roE (y : Ent) : Ent := ⟨y.sz, true, y.c⟩
def roO (O : Objs) : Objs := O.map fun p => (p.1, roE p.2)
def mkro : AObj → AObj
  | .dead => .dead
  | .cells sz _ f st k c => .cells sz true f st k c
def AHeap.ro (h : AHeap) : AHeap := { n := h.n, o := fun b => mkro (h.o b) }
def wasOwn (h : AHeap) (b : Nat) : Bool := match h.o b with
  | .cells _ false _ _ _ _ => true
  | _ => false

theorem ro_un (h : AHeap) : h.ro.un (wasOwn h) = h := by
  obtain ⟨n, o⟩ := h
  unfold AHeap.un AHeap.ro wasOwn
  simp only [AHeap.mk.injEq, true_and]
  funext b
  cases o b with
  | dead => rfl
  | cells sz ro f st k c => cases ro <;> rfl

theorem mkro_inv {x : AObj} {sz ro f st k c} (h : mkro x = .cells sz ro f st k c) : ∃ ro', x = .cells sz ro' f st k c := by
  cases x with
  | dead => cases h
  | cells sz1 ro1 f1 st1 k1 c1 =>
    injection h with e1 e2 e3 e4 e5 e6
    subst e1 e3 e4 e5 e6
    exact ⟨ro1, rfl⟩

theorem mkro_ro {x : AObj} {sz ro f st k c} (h : mkro x = .cells sz ro f st k c) : ro = true := by
  cases x with
  | dead => cases h
  | cells sz1 ro1 f1 st1 k1 c1 => injection h with e1 e2; exact e2.symm

theorem WF.roh (hw : WF h) : WF h.ro := by
  refine ⟨fun b sz ro f m k c ho => ?_, fun b sz ro f st k c ho => ?_, fun y z f sz1 ro1 st1 k1 c1 sz2 ro2 k2 c2 o1 o2 hor => ?_, fun b hb => ?_⟩
  · obtain ⟨ro', e⟩ := mkro_inv ho
    obtain ⟨q1, a1, a2, a3, a4, a5, q2⟩ := hw.wf b _ _ _ _ _ _ e
    exact ⟨q1, a1, true, a3, a4, a5, by show mkro (h.o m) = _; rw [q2]; rfl⟩
  · obtain ⟨ro', e⟩ := mkro_inv ho
    exact hw.fam b _ _ _ _ _ _ e
  · exfalso
    have e1 := mkro_ro o1
    have e2 := mkro_ro o2
    subst e1 e2
    rcases hor with q | ⟨q, _⟩ <;> cases q
  · show mkro (h.o b) = _
    rw [hw.out b hb]; rfl

theorem un_inv {b sz ro f st k c} (ho : (h.un F).o b = .cells sz ro f st k c) : ∃ ro', h.o b = .cells sz ro' f st k c := by
  cases hx : h.o b with
  | dead => rw [un_dead hx] at ho; cases ho
  | cells sz1 ro1 f1 st1 k1 c1 =>
    obtain ⟨ro', e⟩ := un_cells (F := F) hx
    rw [e] at ho
    injection ho with e1 e2 e3 e4 e5 e6
    subst e1 e3 e4 e5 e6
    exact ⟨ro1, rfl⟩

/-- Some old objects and some new ones. -/
theorem WF.unJ {g h2 : AHeap} (hw : WF h') (hg : WF g) (hle : g.n ≤ h'.n) (hn : h2.n = h'.n) (h1 : ∀ b, b < g.n → h2.o b = g.o b) (h3 : ∀ b, g.n ≤ b → h2.o b = h'.o b) (hf : FamB g.n h') : WF h2 := by
  have low : ∀ {b sz ro f st k c}, b < g.n → h2.o b = .cells sz ro f st k c → g.o b = .cells sz ro f st k c := fun hb ho => by rw [← h1 _ hb]; exact ho
  have high : ∀ {b sz ro f st k c}, g.n ≤ b → h2.o b = .cells sz ro f st k c → h'.o b = .cells sz ro f st k c := fun hb ho => by rw [← h3 _ hb]; exact ho
  refine ⟨fun b sz ro f m k c ho => ?_, fun b sz ro f st k c ho => ?_, fun y z f sz1 ro1 st1 k1 c1 sz2 ro2 k2 c2 o1 o2 hor => ?_, fun b hb => ?_⟩
  · rcases Nat.lt_or_ge b g.n with q | q
    · obtain ⟨q1, a1, a2, a3, a4, a5, q2⟩ := hg.wf b _ _ _ _ _ _ (low q ho)
      exact ⟨by omega, a1, a2, a3, a4, a5, by rw [h1 m q1]; exact q2⟩
    · obtain ⟨q1, a1, a2, a3, a4, a5, q2⟩ := hw.wf b _ _ _ _ _ _ (high q ho)
      have hfb := hf b _ _ _ _ _ _ q (high q ho)
      have hfm := hw.fam m _ _ _ _ _ _ q2
      exact ⟨by omega, a1, a2, a3, a4, a5, by rw [h3 m (by omega)]; exact q2⟩
  · rcases Nat.lt_or_ge b g.n with q | q
    · exact hg.fam b _ _ _ _ _ _ (low q ho)
    · exact hw.fam b _ _ _ _ _ _ (high q ho)
  · rcases Nat.lt_or_ge y g.n with q | q <;> rcases Nat.lt_or_ge z g.n with r | r
    · exact hg.uniq y z _ _ _ _ _ _ _ _ _ _ (low q o1) (low r o2) hor
    · omega
    · have a1 := hf y _ _ _ _ _ _ q (high q o1)
      have a2 := hg.fam z _ _ _ _ _ _ (low r o2)
      omega
    · exact hw.uniq y z _ _ _ _ _ _ _ _ _ _ (high q o1) (high r o2) hor
  · rw [h3 b (by omega)]; exact hw.out b (by omega)

theorem ro_keys (O : Objs) : (roO O).map (·.1) = O.map (·.1) := by unfold roO; rw [List.map_map]; rfl

theorem Sat.roh {O : Objs} (hs : Sat h O) : Sat h.ro (roO O) := by
  refine ⟨by rw [ro_keys]; exact hs.nd, fun p hp => ?_, hs.wf.roh⟩
  obtain ⟨q, hq, rfl⟩ := List.mem_map.1 hp
  obtain ⟨f, k, e⟩ := hs.is q hq
  exact ⟨f, k, by show mkro (h.o q.1) = _; rw [e]; rfl⟩

theorem src_rd {g : AHeap} {sz : Nat} {v : Value} {r : Nat × List Value} (hrd : ∀ b c, g.rd b = some c → h.rd b = some c) (hs : srcA g sz v = some r) : srcA h sz v = some r := by
  unfold srcA at hs ⊢
  split at hs
  · exact hs
  · rename_i b off l c
    cases hb : g.rd b with
    | none => rw [hb] at hs; cases hs
    | some c => rw [hb] at hs; rw [hrd b c hb]; exact hs
  · exact hs
  · cases hs

/-- A heap with these objects alone. -/
def onlyO (n : Nat) (O : Objs) : AHeap := { n := n, o := fun b => match O.find? (fun p => Nat.beq p.1 b) with | some p => .cells p.2.sz p.2.ro b none 0 p.2.c | none => .dead }

theorem find_key {O : Objs} (hnd : (O.map (·.1)).Nodup) {p : Nat × Ent} (hp : p ∈ O) : O.find? (fun q => Nat.beq q.1 p.1) = some p := by
  cases hf : O.find? (fun q => Nat.beq q.1 p.1) with
  | none =>
    have := List.find?_eq_none.1 hf p hp
    simp at this
  | some q =>
    have h1 := List.find?_some hf
    have h2 := List.mem_of_find?_eq_some hf
    have e1 := Nat.eq_of_beq_eq_true h1
    obtain ⟨i, hi⟩ := List.getElem?_of_mem h2
    obtain ⟨j, hj⟩ := List.getElem?_of_mem hp
    have := inj_of_nodup hnd hi hj e1
    subst this
    rw [hi] at hj
    exact hj

theorem onlyO_inv {n b : Nat} {O : Objs} {sz ro f st k c} (ho : (onlyO n O).o b = .cells sz ro f st k c) : ∃ p ∈ O, p.1 = b ∧ f = b ∧ st = none ∧ p.2.c = c := by
  simp only [onlyO] at ho
  split at ho
  · rename_i p hp
    injection ho with e1 e2 e3 e4 e5 e6
    exact ⟨p, List.mem_of_find?_eq_some hp, Nat.eq_of_beq_eq_true (List.find?_some (p := fun q : Nat × Ent => Nat.beq q.1 b) hp), e3.symm, e4.symm, e6⟩
  · cases ho

theorem onlyO_sat {O : Objs} (hs : Sat h (roO O)) : Sat (onlyO h.n O) O := by
  have hnd : (O.map (·.1)).Nodup := by rw [← ro_keys]; exact hs.nd
  refine ⟨hnd, fun p hp => ⟨p.1, 0, ?_⟩, fun b sz ro f m k c ho => ?_, fun b sz ro f st k c ho => ?_, fun y z f sz1 ro1 st1 k1 c1 sz2 ro2 k2 c2 o1 o2 _ => ?_, fun b hb => ?_⟩
  · simp only [onlyO, find_key hnd hp]
  · obtain ⟨p, _, _, _, q, _⟩ := onlyO_inv ho
    cases q
  · obtain ⟨p, _, _, q, _⟩ := onlyO_inv ho
    omega
  · obtain ⟨p, _, _, q, _⟩ := onlyO_inv o1
    obtain ⟨p2, _, _, q2, _⟩ := onlyO_inv o2
    omega
  · cases hb2 : (onlyO h.n O).o b with
    | dead => rfl
    | cells sz ro f st k c =>
      obtain ⟨p, hp, q, _⟩ := onlyO_inv hb2
      have := hs.lt (p := (p.1, roE p.2)) (List.mem_map.2 ⟨p, hp, rfl⟩)
      have hb' : h.n ≤ b := hb
      simp only at this
      omega

theorem Src.roh {O : Objs} {sz n : Nat} {v : Value} {cs : List Value} (hs : Src O sz v n cs) : Src (roO O) sz v n cs := fun h hh => by
  refine src_rd (fun b c hc => ?_) (hs _ (onlyO_sat hh))
  rcases rd_cases hc with ⟨sz, ro, f, k, q⟩ | ⟨sz, ro, f, m, k, sz2, ro2, f2, c2, q, _⟩
  · obtain ⟨p, hp, rfl, _, _, rfl⟩ := onlyO_inv q
    obtain ⟨f1, k1, e⟩ := hh.is (p.1, roE p.2) (List.mem_map.2 ⟨p, hp, rfl⟩)
    unfold AHeap.rd
    rw [e]
    rfl
  · obtain ⟨p, _, _, _, q, _⟩ := onlyO_inv q
    cases q

/-- A function that is told of all that came in as of things that it cannot write. -/
theorem Spec.frame {f : FuncId} {args : Array Value} {O : Objs} {Post : Value → Objs → Prop}
    (hf : Spec P false f args (roO O) fun v O' => ∃ N, Post v N ∧ (∀ p ∈ N, p.2.ro = false) ∧ O' = N ++ roO O) : Spec P true f args O fun v O' => ∃ N, Post v N ∧ O' = N ++ O := by
  intro g hg
  obtain ⟨v, h', O', b1, ⟨N, p1, p2, rfl⟩, s', _⟩ := hf g.ro hg.roh
  have st : Stay g.ro h' := stayJ b1
  have hro : RoB g.n g.ro := ⟨Nat.le_refl _, fun b _ => by show isRo (mkro (g.o b)) = true; cases g.o b <;> rfl⟩
  have b2 : Big P drv .none (.call f args g v (h'.un (wasOwn g))) := by
    have := big_un (wasOwn g) (n0 := g.n) (fun b hb => by
      rcases Nat.lt_or_ge b g.n with q | q
      · exact q
      · unfold wasOwn at hb; rw [hg.wf.out b q] at hb; cases hb) b1 hro
    simp only [J.un, ro_un] at this
    exact this
  have hold : ∀ b, b < g.n → h'.o b = g.ro.o b := fun b hb => st.2 b hb (by
    show isRo (mkro (g.o b)) = true
    cases g.o b <;> rfl)
  have hold2 : ∀ b, b < g.n → (h'.un (wasOwn g)).o b = g.o b := fun b hb => by
    have e := un_same (F := wasOwn g) (hold b hb)
    rw [ro_un] at e
    exact e
  refine ⟨v, h'.un (wasOwn g), N ++ O, b2, ⟨N, p1, rfl⟩, ⟨?_, fun p hp => ?_, s'.wf.unJ hg.wf st.1 rfl hold2 (fun b hb => by
    have e : wasOwn g b = false := by unfold wasOwn; rw [hg.wf.out b hb]
    show (bif wasOwn g b then _ else _) = _
    rw [e]; rfl) (famJ b1 hro (fun b sz ro f st k c hb ho => by
    have : mkro (g.o b) = .cells sz ro f st k c := ho
    rw [hg.wf.out b hb] at this; cases this))⟩, fun _ => ⟨st.1, hold2⟩⟩
  · have := s'.nd
    rw [List.map_append, ro_keys] at this
    rw [List.map_append]
    exact this
  · rcases List.mem_append.1 hp with hp | hp
    · obtain ⟨f0, k, e⟩ := s'.is p (List.mem_append_left _ hp)
      rw [p2 p hp] at e
      exact ⟨f0, k, by rw [p2 p hp]; exact un_own e⟩
    · obtain ⟨f0, k, e⟩ := hg.is p hp
      exact ⟨f0, k, by rw [hold2 p.1 (hg.lt hp)]; exact e⟩

theorem Grow.own {sz : Nat} {a : Option Addr} {n c : Nat} {cs : List Value} {G : Objs} (hg : Grow sz a n c cs G) : ∀ p ∈ G, p.2.ro = false := by
  rcases hg with ⟨_, _, _, _, rfl⟩ | ⟨b, _, rfl, _⟩
  · intro p hp; simp at hp
  · intro p hp
    rw [List.mem_singleton] at hp
    subst hp; rfl

end Go.Proofs.Ytahaplbdhgfobaa.Eng

set_option linter.unusedVariables false
set_option linter.unusedSimpArgs false
namespace Go.Proofs.Ytahaplbdhgfobaa.Eng

variable {P : Program} {x : Cx} {L L' : Tmps} {O O' : Objs} {ops : Array Oper} {mq : Mk} {i : Nat} {l : List Oper} {K : ASt → Prop}
  {t u : TypeId} {p : String} {af : Array Edge} {gd : Option (Nat × Bool)} {d : Tmp}

theorem flat_hits {α : Type} [Inhabited α] {E : α → List Value} {m : Nat} (hE : ∀ a, (E a).length = m) (l : List α) (k j : Nat) {v : Value} (h : k < l.length) (hv : (E (nth l k))[j]? = some v) : (flat E l)[k * m + j]? = some v := by
  rw [cell_flat hE l k j h, hv]
  have := (List.getElem?_eq_some_iff.1 hv).1
  rw [hE] at this
  exact this

/-- How a bool that was found tells its proposition. -/
theorem cnd : (∀ (q : Prop) [Decidable q], (decide q = true) = q) ∧ (∀ (q : Prop) [Decidable q], (decide q = false) = ¬ q) ∧ (∀ b : Bool, ((!b) = true) = (b = false)) ∧ (∀ b : Bool, ((!b) = false) = (b = true)) ∧
    (∀ b : Bool, (true = b) = (b = true)) ∧ (∀ b : Bool, (false = b) = (b = false)) ∧ (∀ a b : Int, (¬ a < b) = (b ≤ a)) ∧ (∀ a b : Int, (¬ a ≤ b) = (b < a)) ∧ (∀ q : Prop, (¬ ¬ q) = q) := by
  refine ⟨fun q _ => by simp, fun q _ => by simp, fun b => by simp, fun b => by simp, fun b => by cases b <;> simp, fun b => by cases b <;> simp, fun a b => by simp, fun a b => by simp, fun q => by simp⟩

theorem St.tl {s : ASt} (is : List Nat) (n : Nat) (hs : St x L O s)
    (hL : Told L L' := by repeat (first | exact trivial | refine ⟨by first | exact rfl | exact congrArg (fun n => some (I n)) (by omega) | (simp only [List.length_append, List.length_set, List.length_cons, List.length_nil]; exact rfl), ?_⟩))
    (hnd : is.Nodup := by decide) (hlt : ∀ i ∈ is, i < n := by decide) (hO : Eng.pick O is ++ O.drop n = O' := by exact rfl) : St x L' O' s := hs.told hL is n hnd hlt hO

theorem Sat.tl {h : AHeap} (is : List Nat) (n : Nat) (hs : Sat h O) (hnd : is.Nodup := by decide) (hlt : ∀ i ∈ is, i < n := by decide) (hO : Eng.pick O is ++ O.drop n = O' := by exact rfl) : Sat h O' := hs.told is n hnd hlt hO

theorem bool_false {p : Prop} [Decidable p] (h : ¬ p) : Value.bool false = .bool (decide p) := by rw [decide_eq_false h]
theorem bool_true {p : Prop} [Decidable p] (h : p) : Value.bool true = .bool (decide p) := by rw [decide_eq_true h]

/-! What is found by itself. -/
theorem at_ {b : Nat} {e : Ent} (h : Knows O b e := by first | exact Knows.at 0 rfl | exact Knows.at 1 rfl | exact Knows.at 2 rfl | exact Knows.at 3 rfl | exact Knows.at 4 rfl | exact Knows.at 5 rfl | exact Knows.at 6 rfl | exact Knows.at 7 rfl | exact Knows.mem (by assumption) | (repeat (first | assumption | apply Knows.cons))) : Knows O b e := h
theorem src_ {sz n : Nat} {v : Value} {cs : List Value} (h : Src O sz v n cs := by repeat (first | assumption | exact Grow.src (by assumption) | exact Grow.src0 (by assumption) | apply Src.cons | apply Src.app)) : Src O sz v n cs := h
theorem eq_ {α : Type} {a b : α} (h : a = b := by first | exact rfl | exact congrArg (fun n => some (I n)) (by omega)) : a = b := h
theorem drop_ (h : ∀ g, Sat g O → Sat g O' := by intro g hs; first | exact hs | exact hs.tail | exact hs.tail.tail | exact hs.tail.tail.tail | exact hs.tail.tail.tail.tail | exact hs.tail.tail.tail.tail.tail | exact hs.tail.tail.tail.tail.tail.tail) : ∀ g, Sat g O → Sat g O' := h
theorem bl_ {a b : Value} (h : a = b := by first | exact rfl | exact bool_true (by first | assumption | omega) | exact bool_false (by first | assumption | omega) | exact congrArg Value.bool (decide_eq_decide.2 (by omega)) | exact congrArg Value.bool (Bool.eq_iff_iff.2 (by simp only [Bool.not_eq_true', decide_eq_false_iff_not, decide_eq_true_eq]; omega))) : a = b := h
theorem lz_ {a b : Bool} (h : a = b := by first | exact rfl | exact (show lazyOf _ _ = false from by decide +kernel)) : a = b := h
theorem Src.lit {b off n c sz : Nat} {y : Ent} {cs : List Value} (hk : Knows O b y := by first | exact Knows.at 0 rfl | exact Knows.at 1 rfl | exact Knows.at 2 rfl | exact Knows.at 3 rfl | exact Knows.at 4 rfl | exact Knows.at 5 rfl | exact Knows.at 6 rfl | exact Knows.at 7 rfl | exact Knows.mem (by assumption) | (repeat (first | assumption | apply Knows.cons))) (hl : off + n * sz ≤ y.c.length := by exact Nat.le_of_ble_eq_true rfl) (he : (y.c.drop off).take (n * sz) = cs := by exact rfl) : Src O sz (Row b off n c) n cs := Src.of hk hl he

theorem WXL.ld {y : Operand} {ty : TypeId} {b off : Nat} {e : Ent} {v : Value} (hw : Met x L ops gd) (hy : evL L y = some (Ptr b off)) (ht : isAggT P ty = some false)
    (h : WXL P x ops mq (i + 1) l ((d, v) :: L) O K)
    (hlz : mq.lz i = false := by first | exact rfl | exact (show lazyOf _ _ = false from by decide +kernel))
    (hk : Knows O b e := by first | exact Knows.at 0 rfl | exact Knows.at 1 rfl | exact Knows.at 2 rfl | exact Knows.at 3 rfl | exact Knows.at 4 rfl | exact Knows.at 5 rfl | exact Knows.at 6 rfl | exact Knows.at 7 rfl | exact Knows.mem (by assumption) | (repeat (first | assumption | apply Knows.cons)))
    (hv : e.c[off]? = some v := by first | exact rfl | exact cell_map _ _ _ (by first | assumption | omega) | exact flat_hits (by exact fun _ => rfl) _ _ _ (by omega) (by exact rfl)) :
    WXL P x ops mq i ({ dst := some d, op := .load ty y, type := t, pos := p, after := af, guard := gd } :: l) L O K := WXL.load1 hlz hw hy hk ht hv h

theorem WXL.ldS {y : Operand} {ty : TypeId} {a : Option Addr} {n c m sz k : Nat} {cs : List Value} {v : Value} (hw : Met x L ops gd) (hy : evL L y = some (ePtr a k)) (ht : isAggT P ty = some false)
    (h : WXL P x ops mq (i + 1) l ((d, v) :: L) O K)
    (hlz : mq.lz i = false := by first | exact rfl | exact (show lazyOf _ _ = false from by decide +kernel))
    (hsrc : Src O sz (.slice a n c) m cs := by repeat (first | assumption | exact Grow.src (by assumption) | exact Grow.src0 (by assumption) | apply Src.cons | apply Src.app))
    (hv : cs[k]? = some v := by first | exact rfl | exact cell_map _ _ _ (by first | assumption | omega) | exact flat_hits (by exact fun _ => rfl) _ _ _ (by omega) (by exact rfl)) :
    WXL P x ops mq i ({ dst := some d, op := .load ty y, type := t, pos := p, after := af, guard := gd } :: l) L O K := WXL.load1S hlz hw hy hsrc ht hv h

theorem WXL.lz1 {y : Operand} {ty : TypeId} {b off : Nat} {e : Ent} {v : Value} (hw : Met x L ops gd) (hy : evL L y = some (Ptr b off)) (ht : isAggT P ty = some false)
    (h : WXL P x ops ⟨mq.q, mq.lz, (b, false) :: mq.Z, mq.d⟩ (i + 1) l ((d, v) :: L) O K)
    (hk : Knows O b e := by first | exact Knows.at 0 rfl | exact Knows.at 1 rfl | exact Knows.at 2 rfl | exact Knows.at 3 rfl | exact Knows.at 4 rfl | exact Knows.at 5 rfl | exact Knows.at 6 rfl | exact Knows.at 7 rfl | exact Knows.mem (by assumption) | (repeat (first | assumption | apply Knows.cons)))
    (hv : e.c[off]? = some v := by first | exact rfl | exact cell_map _ _ _ (by first | assumption | omega) | exact flat_hits (by exact fun _ => rfl) _ _ _ (by omega) (by exact rfl))
    (hp : plainC v = true := by exact rfl)
    (hez : mq.lz (i + 65536) = false := by first | exact rfl | exact (show lazyOf _ _ = false from by decide +kernel)) :
    WXL P x ops mq i ({ dst := some d, op := .load ty y, type := t, pos := p, after := af, guard := gd } :: l) L O K := WXL.lazy1 hw hy hk ht hv hp hez h

theorem WXL.ldN {y : Operand} {ty : TypeId} {b off n : Nat} {e : Ent} {vs : List Value} (hw : Met x L ops gd) (hy : evL L y = some (Ptr b off)) (ht : isAggT P ty = some true) (hn : szOf P ty = some n)
    (h : WXL P x ops mq (i + 1) l ((d, .agg vs.toArray) :: L) O K)
    (hlz : mq.lz i = false := by first | exact rfl | exact (show lazyOf _ _ = false from by decide +kernel))
    (hk : Knows O b e := by first | exact Knows.at 0 rfl | exact Knows.at 1 rfl | exact Knows.at 2 rfl | exact Knows.at 3 rfl | exact Knows.at 4 rfl | exact Knows.at 5 rfl | exact Knows.at 6 rfl | exact Knows.at 7 rfl | exact Knows.mem (by assumption) | (repeat (first | assumption | apply Knows.cons)))
    (hv : cellsAt e.c off n = some vs := by first | exact rfl | exact cellsAt_flat (by exact fun _ => rfl) _ _ (by first | assumption | omega)) :
    WXL P x ops mq i ({ dst := some d, op := .load ty y, type := t, pos := p, after := af, guard := gd } :: l) L O K := WXL.loadN hlz hw hy hk ht hn hv h

theorem WXL.ldNS {y : Operand} {ty : TypeId} {a : Option Addr} {n c m sz k w : Nat} {cs vs : List Value} (hw : Met x L ops gd) (hy : evL L y = some (ePtr a k)) (ht : isAggT P ty = some true) (hn : szOf P ty = some (w + 1))
    (h : WXL P x ops mq (i + 1) l ((d, .agg vs.toArray) :: L) O K)
    (hlz : mq.lz i = false := by first | exact rfl | exact (show lazyOf _ _ = false from by decide +kernel))
    (hsrc : Src O sz (.slice a n c) m cs := by repeat (first | assumption | exact Grow.src (by assumption) | exact Grow.src0 (by assumption) | apply Src.cons | apply Src.app))
    (hv : cellsAt cs k (w + 1) = some vs := by first | exact rfl | exact cellsAt_flat (by exact fun _ => rfl) _ _ (by first | assumption | omega)) :
    WXL P x ops mq i ({ dst := some d, op := .load ty y, type := t, pos := p, after := af, guard := gd } :: l) L O K := WXL.loadNS hlz hw hy hsrc ht hn hv h

theorem WXL.lzN {y : Operand} {ty : TypeId} {b off n : Nat} {e : Ent} {vs : List Value} (hw : Met x L ops gd) (hy : evL L y = some (Ptr b off)) (ht : isAggT P ty = some true) (hn : szOf P ty = some n)
    (h : WXL P x ops ⟨mq.q, mq.lz, (b, false) :: mq.Z, mq.d⟩ (i + 1) l ((d, .agg vs.toArray) :: L) O K)
    (hk : Knows O b e := by first | exact Knows.at 0 rfl | exact Knows.at 1 rfl | exact Knows.at 2 rfl | exact Knows.at 3 rfl | exact Knows.at 4 rfl | exact Knows.at 5 rfl | exact Knows.at 6 rfl | exact Knows.at 7 rfl | exact Knows.mem (by assumption) | (repeat (first | assumption | apply Knows.cons)))
    (hv : cellsAt e.c off n = some vs := by exact rfl) (hp : vs.all plain1 = true := by exact rfl)
    (hez : mq.lz (i + 65536) = false := by first | exact rfl | exact (show lazyOf _ _ = false from by decide +kernel)) :
    WXL P x ops mq i ({ dst := some d, op := .load ty y, type := t, pos := p, after := af, guard := gd } :: l) L O K := WXL.lazyN hw hy hk ht hn hv hp hez h

theorem WXL.ix {y z : Operand} {ty e : TypeId} {b off n c sz : Nat} {k : IntKind} {j : Int} {off' : Nat} (hw : Met x L ops gd) (hy : evL L y = some (Row b off n c)) (hz : evL L z = some (.int k j))
    (he : elemOf P ty = some e) (hs : szOf P e = some sz) (h : WXL P x ops mq (i + 1) l ((d, Ptr b off') :: L) O K)
    (h0 : 0 ≤ j := by omega) (h1 : j < n := by omega) (ho : off + j.toNat * sz = off' := by first | (simp only [off_succ, Int.toNat_natCast, Nat.mul_one, Nat.zero_add]; exact rfl) | exact rfl) :
    WXL P x ops mq i ({ dst := some d, op := .indexAddr ty y z, type := t, pos := p, after := af, guard := gd } :: l) L O K := WXL.indexAddr hw hy hz he hs h0 h1 ho h

theorem WXL.ixS {y z : Operand} {ty e : TypeId} {a : Option Addr} {n c m sz : Nat} {cs : List Value} {k : IntKind} {j : Int} {off' : Nat} (hw : Met x L ops gd) (hy : evL L y = some (.slice a n c)) (hz : evL L z = some (.int k j))
    (he : elemOf P ty = some e) (hs : szOf P e = some sz) (h : WXL P x ops mq (i + 1) l ((d, ePtr a off') :: L) O K)
    (hsrc : Src O sz (.slice a n c) m cs := by repeat (first | assumption | exact Grow.src (by assumption) | exact Grow.src0 (by assumption) | apply Src.cons | apply Src.app))
    (h0 : 0 ≤ j := by omega) (h1 : j < n := by omega) (ho : j.toNat * sz = off' := by first | (simp only [off_succ, Int.toNat_natCast, Nat.mul_one, Nat.zero_add]; exact rfl) | exact rfl) :
    WXL P x ops mq i ({ dst := some d, op := .indexAddr ty y z, type := t, pos := p, after := af, guard := gd } :: l) L O K := WXL.indexS hw hy hz he hs hsrc h0 h1 ho h

theorem WXL.faS {y : Operand} {ty : TypeId} {a : Option Addr} {n c m sz k f g0 : Nat} {cs : List Value} {fs : Array Field} {g : Field} {off' : Nat} (hw : Met x L ops gd) (hy : evL L y = some (ePtr a k)) (hu : P.underlying ty = some (.struct fs)) (hg : fs[f]? = some g)
    (hs : szOf P g.type = some (g0 + 1)) (h : WXL P x ops mq (i + 1) l ((d, ePtr a off') :: L) O K)
    (hsrc : Src O sz (.slice a n c) m cs := by repeat (first | assumption | exact Grow.src (by assumption) | exact Grow.src0 (by assumption) | apply Src.cons | apply Src.app))
    (hn : k < cs.length := by first | (rw [flat_encE_len]; omega) | (simp; omega)) (ho : k + g.offset = off' := by exact rfl) :
    WXL P x ops mq i ({ dst := some d, op := .fieldAddr ty y f, type := t, pos := p, after := af, guard := gd } :: l) L O K := WXL.fieldS hw hy hu hg hs hsrc hn ho h

theorem ob_ (j : Nat) {q : Option (Nat × Ent)} (h : O[j]? = q) : O[j]? = q := h

theorem WXL.st {y z : Operand} {ty : TypeId} {j b off sz : Nat} {c vs c' : List Value} {v : Value} (hw : Met x L ops gd) (hy : evL L y = some (Ptr b off)) (hz : evL L z = some v) (hv : v.cells.toList = vs) (hs : szOf P ty = some vs.length)
    (h : WXL P x ops mq (i + 1) l L O' K) (hq : x.q = false := by exact rfl)
    (hj : O[j]? = some (b, ⟨sz, false, c⟩) := by first | exact ob_ 0 rfl | exact ob_ 1 rfl | exact ob_ 2 rfl | exact ob_ 3 rfl | exact ob_ 4 rfl | exact ob_ 5 rfl | exact ob_ 6 rfl | exact ob_ 7 rfl)
    (hl : off + vs.length ≤ c.length := by first | exact (Nat.le_of_ble_eq_true rfl) | (simp; done) | (simp; omega) | omega) (ha : vs.all isCell = true := by exact rfl)
    (hc : splice c off vs = c' := by first | exact splice_map _ _ _ _ (by first | assumption | omega) | exact rfl)
    (hcl : Clear O j mq.Z := by repeat (first | exact Clear.nil | refine Clear.cons 0 rfl rfl ?_ | refine Clear.cons 1 rfl rfl ?_ | refine Clear.cons 2 rfl rfl ?_ | refine Clear.cons 3 rfl rfl ?_ | refine Clear.cons 4 rfl rfl ?_))
    (hO : O.set j (b, ⟨sz, false, c'⟩) = O' := by simp only [List.cons_append, List.nil_append, List.set_cons_zero, List.set_cons_succ]; exact rfl) :
    WXL P x ops mq i ({ dst := none, op := .store ty y z, type := t, pos := p, after := af, guard := gd } :: l) L O K := WXL.store j hw hq hy hz hj hv hs hl ha hc hcl hO h

theorem WXL.cl {ops : Array Oper} {mq : Mk} {i : Nat} {g : Operand} {aas : Array Operand} {ts : Array TypeId} {dst : Option Tmp} {t : TypeId} {p : String} {af : Array Edge} {gd : Option (Nat × Bool)} {l : List Oper} {K : ASt → Prop}
    {f : FuncId} {first cap : Array Value} {vs : List Value} {q : Bool} {O1 : Objs} {Post : Value → Objs → Prop}
    (hw : Met x L ops gd) (hf : evL L g = some (.func (.func f) first cap)) (hok : fnOk P f = true) (ha : evArgs L aas.toList = some vs) (hO : ∀ h, Sat h O → Sat h O1)
    (hspec : Spec P q f (first.toList ++ vs ++ cap.toList).toArray O1 Post)
    (h : ∀ v O', Post v O' → WXL P x ops mq (i + 1) l (putL dst v L) O' K)
    (hq : q = true ∨ (mq.q i = false ∧ x.q = false ∧ mq.Z = []) := by first | exact .inl rfl | exact .inr ⟨rfl, rfl, rfl⟩ | exact .inr ⟨(show needs _ _ = false from by decide +kernel), rfl, rfl⟩) :
    WXL P x ops mq i ({ dst := dst, op := .call { callee := .value g, args := aas, argTypes := ts }, type := t, pos := p, after := af, guard := gd } :: l) L O K := WXL.call hw hf hok ha hO hq hspec h

theorem WXL.clZ {ops : Array Oper} {mq : Mk} {i : Nat} {g : Operand} {aas : Array Operand} {ts : Array TypeId} {dst : Option Tmp} {t : TypeId} {p : String} {af : Array Edge} {gd : Option (Nat × Bool)} {l : List Oper} {K : ASt → Prop}
    {f : FuncId} {first cap : Array Value} {vs : List Value} {q : Bool} {O1 : Objs} {Post : Value → Objs → Prop}
    (hw : Met x L ops gd) (hf : evL L g = some (.func (.func f) first cap)) (hok : fnOk P f = true) (ha : evArgs L aas.toList = some vs) (hO : ∀ h, Sat h O → Sat h O1)
    (hspec : Spec P q f (first.toList ++ vs ++ cap.toList).toArray O1 Post)
    (hz : ∀ v O', Post v O' → ∀ z ∈ mq.Z, ∃ y, Knows O z.1 y ∧ Knows O' z.1 y)
    (h : ∀ v O', Post v O' → WXL P x ops mq (i + 1) l (putL dst v L) O' K)
    (hq1 : mq.q i = false := by exact rfl) (hq2 : x.q = false := by exact rfl) :
    WXL P x ops mq i ({ dst := dst, op := .call { callee := .value g, args := aas, argTypes := ts }, type := t, pos := p, after := af, guard := gd } :: l) L O K := WXL.callZ hw hf hok ha hO (.inr ⟨hq1, hq2, hz⟩) (hspec.toIn _) h

theorem WXL.apG {y z : Operand} {ty tz e : TypeId} {a : Option Addr} {n c sz by_ m : Nat} {cs new : List Value} {v zv : Value} {G : Objs} (A : Objs) {R : Objs} (hw : Met x L ops gd) (hy : evL L y = some (.slice a n c)) (hz : evL L z = some v) (hr : isRowT P tz = true)
    (he : elemOf P ty = some e) (hs : szOf P e = some sz) (hby : byOf P e = some by_) (hzv : zeroOf P e = some zv)
    (hsrc : Src O sz v m new)
    (h : ∀ a' c' G', Grow sz a' (n + m) c' (cs ++ new) G' → WXL P x ops mq (i + 1) l ((d, .slice a' (n + m) c') :: L) (A ++ (G' ++ R)) K)
    (hf : (n + m) * by_ ≤ 140737488355328 := by omega) (hm : new.length = m * sz := by exact rfl)
    (hg : Grow sz a n c cs G := by assumption) (hq : x.q = false := by exact rfl) (hcl : mq.Z = [] := by exact rfl) (hO : O = A ++ (G ++ R) := by exact rfl) (h3 : zv.cells.size = sz := by exact rfl) (h1 : 0 < sz := by decide) (h2 : 0 < by_ := by decide) :
    WXL P x ops mq i ({ dst := some d, op := .call { callee := .builtin .append, args := #[y, z], argTypes := #[ty, tz] }, type := t, pos := p, after := af, guard := gd } :: l) L O K :=
  WXL.appendG A hw hq hy hz hr hcl hO hg hsrc he hs hby hzv h3 hf h1 h2 hm h

theorem WXL.qu {y z : Operand} {k : IntKind} {a b r : Int} {w : TypeId} (hw : Met x L ops gd) (hy : evL L y = some (.int k a)) (hz : evL L z = some (.int k b)) (h : WXL P x ops mq (i + 1) l ((d, .int k r) :: L) O K)
    (hb : b ≠ 0 := by omega) (hr : k.wrap (a.tdiv b) = r := by first | exact wrap_quo (by omega) (by omega) (by omega) | exact rfl) :
    WXL P x ops mq i ({ dst := some d, op := .binOp .quo u y z w, type := t, pos := p, after := af, guard := gd } :: l) L O K := WXL.quo hw hy hz hb hr h

theorem bvA {k : IntKind} {a b : Int} {v : Value} (h : binV .add k a b = some v := by first | exact binV_add (by omega) (by omega) | exact rfl) : binV .add k a b = some v := h
theorem bvS {k : IntKind} {a b : Int} {v : Value} (h : binV .sub k a b = some v := by first | exact binV_sub (by omega) (by omega) | exact rfl) : binV .sub k a b = some v := h
theorem bvM {k : IntKind} {a b : Int} {v : Value} (h : binV .mul k a b = some v := by first | exact binV_mul (by omega) (by omega) | exact rfl) : binV .mul k a b = some v := h

end Go.Proofs.Ytahaplbdhgfobaa.Eng

set_option linter.unusedVariables false
set_option linter.unusedSimpArgs false
namespace Go.Proofs.Ytahaplbdhgfobaa.Eng

variable {P : Program} {x : Cx} {L L' : Tmps} {O O' : Objs} {ops : Array Oper} {mq : Mk} {i : Nat} {l : List Oper} {K : ASt → Prop}
  {t u : TypeId} {p : String} {af : Array Edge} {gd : Option (Nat × Bool)} {d : Tmp}

theorem WXL.ap {y z : Operand} {ty tz e : TypeId} {j b off n cp sz by_ m : Nat} {c cs c' : List Value} {v zv : Value} (hw : Met x L ops gd) (hy : evL L y = some (Row b off n cp)) (hz : evL L z = some v) (hr : isRowT P tz = true)
    (he : elemOf P ty = some e) (hs : szOf P e = some sz) (hby : byOf P e = some by_) (hzv : zeroOf P e = some zv) (hsrc : Src O sz v m cs)
    {OO : Nat → Objs} (h : ∀ b, WXL P x ops mq (i + 1) l ((d, Row b 0 (n + m) (n + m)) :: L) (OO b) K)
    (hj : O[j]? = some (b, ⟨sz, false, c⟩) := by first | exact ob_ 0 rfl | exact ob_ 1 rfl | exact ob_ 2 rfl | exact ob_ 3 rfl | exact ob_ 4 rfl | exact ob_ 5 rfl | exact ob_ 6 rfl | exact ob_ 7 rfl)
    (hl : off + n * sz = c.length := by simp) (hf : (n + m) * by_ ≤ 140737488355328 := by omega) (hc : c.drop off ++ cs = c' := by exact rfl)
    (hcl : Clear O j mq.Z := by repeat (first | exact Clear.nil | refine Clear.cons 0 rfl rfl ?_ | refine Clear.cons 1 rfl rfl ?_ | refine Clear.cons 2 rfl rfl ?_ | refine Clear.cons 3 rfl rfl ?_ | refine Clear.cons 4 rfl rfl ?_))
    (hO : ∀ b, O.set j (b, ⟨sz, false, c'⟩) = OO b := by intro b; simp only [List.cons_append, List.nil_append, List.set_cons_zero, List.set_cons_succ]; exact rfl)
    (hq : x.q = false := by exact rfl) (h3 : zv.cells.size = sz := by exact rfl) (h1 : 0 < sz := by decide) (h2 : 0 < by_ := by decide) :
    WXL P x ops mq i ({ dst := some d, op := .call { callee := .builtin .append, args := #[y, z], argTypes := #[ty, tz] }, type := t, pos := p, after := af, guard := gd } :: l) L O K :=
  WXL.append j hw hq hy hz hr hj hsrc he hs hby hzv h3 hl hf h1 h2 hc hcl hO h

/-- A guarded operation whose guard was not computed. -/
theorem WXL.missU {j e : Nat} {want : Bool} {dst : Tmp} {op : Op} (hj : (ops[j]?).bind (·.dst) = some e) (hd : getT L e = some undef)
    (h : WXL P x ops mq (i + 1) l ((dst, undef) :: L) O K) : WXL P x ops mq i ({ dst := some dst, op := op, type := t, pos := p, after := af, guard := some (j, want) } :: l) L O K := by
  intro hdr hq s hs hz
  obtain ⟨ho, hd'⟩ := drop_head hdr
  obtain ⟨s', g1, g2, g3⟩ := h hd' hq (s.put (some dst) undef s.h) ⟨hs.m, hs.t.put _ _ _, hs.sat, hs.old⟩ hz
  refine ⟨s', .opskip ho ?_ g1, by rw [g2, put_m], g3⟩
  unfold wantedA Region.wanted
  simp only [hj, hs.t e _ hd]
  rfl

/-! Is it nil? -/
theorem nilA {o : BinOp} {u : TypeId} {y z : Operand} {w : TypeId} {s : ASt} {a b : Value} {r : Bool} (ho : (o = .eql ∧ r = false) ∨ (o = .neq ∧ r = true)) (hy : s.ev y = a) (hz : s.ev z = b) (hn : (plain1 a && plain1 b) = false) (hq : nilEq P u a b = true) :
    aop P { dst := some d, op := .binOp o u y z w, type := t, pos := p, after := af, guard := gd } s = some (.bool r, s.h) := by
  have hall : (#[y, z].all fun x => plain1 (s.ev x)) = false := by simp only [← Array.all_toList, List.all_cons, List.all_nil, hy, hz, Bool.and_true]; exact hn
  unfold aop
  simp only
  unfold scalarA
  simp only [Op.operands, hall, Bool.false_eq_true, if_false]
  unfold nilCmp
  rcases ho with ⟨rfl, rfl⟩ | ⟨rfl, rfl⟩ <;> simp only [hy, hz, hq, if_true, Option.map_some]

theorem nilP {o : BinOp} {y z : Operand} {a b : Value} {r : Bool} (ho : o = .eql ∨ o = .neq) (hp : (∃ n c m k, a = .slice none n c ∧ b = .slice none m k ∧ ∃ e, P.underlying u = some (.slice e)) ∨ (a = .pointer none ∧ b = .pointer none ∧ ∃ e, P.underlying u = some (.pointer e))) (hr : r = decide (o = .eql)) :
    purely P (do eqGuard o u y z a b; binOp o u a b) = some (.bool r) := by
  subst hr
  have heq : ∀ x y : Value, ((∃ n c m k, x = .slice none n c ∧ y = .slice none m k ∧ ∃ e, P.underlying u = some (.slice e)) ∨ (x = .pointer none ∧ y = .pointer none ∧ ∃ e, P.underlying u = some (.pointer e))) → purely P (Op.equalIn (9999 + 1) u x y) = some true := by
    intro x y hx
    rcases hx with ⟨n, c, m, k, rfl, rfl, e, hu⟩ | ⟨rfl, rfl, e, hu⟩ <;> (unfold Op.equalIn; rw [purely_bind, underlying_of hu]; rfl)
  have h := heq a b hp
  rcases hp with ⟨n, c, m, k, rfl, rfl, e, hu⟩ | ⟨rfl, rfl, e, hu⟩
  · rcases ho with rfl | rfl
    · show purely P (Op.equalIn (9999 + 1) u _ _ >>= fun r => (pure (Value.bool r) : Sem Value)) = _
      rw [purely_bind, h]; rfl
    · show purely P (Op.equalIn (9999 + 1) u _ _ >>= fun r => (pure (Value.bool (!r)) : Sem Value)) = _
      rw [purely_bind, h]; rfl
  · rcases ho with rfl | rfl
    · show purely P (Op.equalIn (9999 + 1) u _ _ >>= fun r => (pure (Value.bool r) : Sem Value)) = _
      rw [purely_bind, h]; rfl
    · show purely P (Op.equalIn (9999 + 1) u _ _ >>= fun r => (pure (Value.bool (!r)) : Sem Value)) = _
      rw [purely_bind, h]; rfl

theorem WXL.eqNil {y z : Operand} {a : Option Addr} {n c m k : Nat} {w e : TypeId} (hw : Met x L ops gd) (hy : evL L y = some (.slice a n c)) (hz : evL L z = some (.slice none m k)) (hu : P.underlying u = some (.slice e)) (h : WXL P x ops mq (i + 1) l ((d, .bool a.isNone) :: L) O K) :
    WXL P x ops mq i ({ dst := some d, op := .binOp .eql u y z w, type := t, pos := p, after := af, guard := gd } :: l) L O K := by
  cases a with
  | none => exact WXL.val (.inl rfl) hw (fun s hs => scalar2 (hs.t.ev hy) (hs.t.ev hz) rfl rfl (nilP (.inl rfl) (.inl ⟨_, _, _, _, rfl, rfl, e, hu⟩) rfl) rfl) h
  | some a => exact WXL.val (.inl rfl) hw (fun s hs => nilA (.inl ⟨rfl, rfl⟩) (hs.t.ev hy) (hs.t.ev hz) rfl (by unfold nilEq; rw [hu])) h

theorem WXL.neNil {y z : Operand} {a : Option Addr} {n c m k : Nat} {w e : TypeId} (hw : Met x L ops gd) (hy : evL L y = some (.slice a n c)) (hz : evL L z = some (.slice none m k)) (hu : P.underlying u = some (.slice e)) (h : WXL P x ops mq (i + 1) l ((d, .bool (!a.isNone)) :: L) O K) :
    WXL P x ops mq i ({ dst := some d, op := .binOp .neq u y z w, type := t, pos := p, after := af, guard := gd } :: l) L O K := by
  cases a with
  | none => exact WXL.val (.inl rfl) hw (fun s hs => scalar2 (hs.t.ev hy) (hs.t.ev hz) rfl rfl (nilP (.inr rfl) (.inl ⟨_, _, _, _, rfl, rfl, e, hu⟩) rfl) rfl) h
  | some a => exact WXL.val (.inl rfl) hw (fun s hs => nilA (.inr ⟨rfl, rfl⟩) (hs.t.ev hy) (hs.t.ev hz) rfl (by unfold nilEq; rw [hu])) h

theorem WXL.eqNilP {y z : Operand} {a : Option Addr} {w e : TypeId} (hw : Met x L ops gd) (hy : evL L y = some (.pointer a)) (hz : evL L z = some (.pointer none)) (hu : P.underlying u = some (.pointer e)) (h : WXL P x ops mq (i + 1) l ((d, .bool a.isNone) :: L) O K) :
    WXL P x ops mq i ({ dst := some d, op := .binOp .eql u y z w, type := t, pos := p, after := af, guard := gd } :: l) L O K := by
  cases a with
  | none => exact WXL.val (.inl rfl) hw (fun s hs => scalar2 (hs.t.ev hy) (hs.t.ev hz) rfl rfl (nilP (.inl rfl) (.inr ⟨rfl, rfl, e, hu⟩) rfl) rfl) h
  | some a => exact WXL.val (.inl rfl) hw (fun s hs => nilA (.inl ⟨rfl, rfl⟩) (hs.t.ev hy) (hs.t.ev hz) rfl (by unfold nilEq; rw [hu])) h

theorem WXL.neNilP {y z : Operand} {a : Option Addr} {w e : TypeId} (hw : Met x L ops gd) (hy : evL L y = some (.pointer a)) (hz : evL L z = some (.pointer none)) (hu : P.underlying u = some (.pointer e)) (h : WXL P x ops mq (i + 1) l ((d, .bool (!a.isNone)) :: L) O K) :
    WXL P x ops mq i ({ dst := some d, op := .binOp .neq u y z w, type := t, pos := p, after := af, guard := gd } :: l) L O K := by
  cases a with
  | none => exact WXL.val (.inl rfl) hw (fun s hs => scalar2 (hs.t.ev hy) (hs.t.ev hz) rfl rfl (nilP (.inr rfl) (.inr ⟨rfl, rfl, e, hu⟩) rfl) rfl) h
  | some a => exact WXL.val (.inl rfl) hw (fun s hs => nilA (.inr ⟨rfl, rfl⟩) (hs.t.ev hy) (hs.t.ev hz) rfl (by unfold nilEq; rw [hu])) h

/-- `x[lo:]` -/
theorem WXL.suf {y z : Operand} {ty e : TypeId} {a : Option Addr} {n c sz m : Nat} {cs : List Value} {k : IntKind} {j : Int} (hw : Met x L ops gd) (hy : evL L y = some (.slice a n c)) (hz : evL L z = some (.int k j))
    (he : elemOf P ty = some e) (hs : szOf P e = some sz) {b off : Nat} {q : Ent} (ha : a = some ⟨b, off, none⟩) (hk : Knows O b q) (hq : q.sz = sz) (h : WXL P x ops mq (i + 1) l ((d, .slice (some ⟨b, off + m * sz, none⟩) (n - m) (n - m)) :: L) O K) (hj : j = m := by omega) (hm : m ≤ n := by omega) :
    WXL P x ops mq i ({ dst := some d, op := .slice ty y (some z) none none, type := t, pos := p, after := af, guard := gd } :: l) L O K :=
  WXL.val (.inl rfl) hw (fun s hst => by
    subst hj ha
    have hb : boundA (some (Value.int k (m : Int))) 0 = some m := by simp [boundA]
    obtain ⟨f, kk, ho⟩ := hk _ hst.sat
    simp only [aop, hst.t.ev hy, Option.map_none, Option.map_some, hst.t.ev hz, sliceA, he, Option.bind_some, hs, hb, ho]
    rw [show boundA none n = some n from rfl]
    simp only [Nat.le_refl, hm, hq, and_self, if_true, Option.map_some]) h

/-- A row whose object is known, or nil. -/
def Rowy (O : Objs) (sz : Nat) (a : Option Addr) (n : Nat) (cs : List Value) : Prop :=
  (a = none ∧ n = 0 ∧ cs = []) ∨ ∃ b off y, a = some ⟨b, off, none⟩ ∧ Knows O b y ∧ y.sz = sz ∧ off + n * sz ≤ y.c.length ∧ (y.c.drop off).take (n * sz) = cs

theorem Rowy.src {sz : Nat} {a : Option Addr} {n : Nat} {cs : List Value} (h : Rowy O sz a n cs) {c : Nat} (hc : a = none → c = 0) : Src O sz (.slice a n c) n cs := by
  rcases h with ⟨rfl, rfl, rfl⟩ | ⟨b, off, y, rfl, hk, hs, hl, hcs⟩
  · rw [hc rfl]; exact Src.nil
  · exact Src.of hk hl hcs

theorem Rowy.pre {sz : Nat} {a : Option Addr} {n m : Nat} {cs : List Value} (h : Rowy O sz a n cs) (hm : m ≤ n) : Rowy O sz a m (cs.take (m * sz)) := by
  have hmn : m * sz ≤ n * sz := Nat.mul_le_mul_right _ hm
  rcases h with ⟨rfl, rfl, rfl⟩ | ⟨b, off, y, rfl, hk, hs, hl, hcs⟩
  · exact .inl ⟨rfl, by omega, by simp⟩
  · refine .inr ⟨b, off, y, rfl, hk, hs, by omega, ?_⟩
    rw [← hcs, List.take_take, Nat.min_eq_left hmn]

theorem Grow.rowy {sz : Nat} {a : Option Addr} {n c : Nat} {cs : List Value} {G R : Objs} (hg : Grow sz a n c cs G) : Rowy (G ++ R) sz a n cs := by
  rcases hg with ⟨rfl, rfl, rfl, rfl, rfl⟩ | ⟨b, rfl, rfl, hl⟩
  · exact .inl ⟨rfl, rfl, rfl⟩
  · refine .inr ⟨b, 0, ⟨sz, false, cs⟩, rfl, Knows.at 0 rfl, rfl, ?_, ?_⟩
    · show 0 + n * sz ≤ cs.length
      omega
    · show (cs.drop 0).take (n * sz) = cs
      rw [List.drop_zero, List.take_of_length_le (by omega)]

theorem Grow.nil0 {sz : Nat} {a : Option Addr} {n c : Nat} {cs : List Value} {G : Objs} (hg : Grow sz a n c cs G) (h : a = none) : c = 0 ∧ n = 0 := by
  rcases hg with ⟨_, q1, q2, _⟩ | ⟨b, q, _⟩
  · exact ⟨q2, q1⟩
  · rw [h] at q; cases q

theorem Rowy.nil0 {sz : Nat} {a : Option Addr} {n : Nat} {cs : List Value} (hr : Rowy O sz a n cs) (h : a = none) : n = 0 := by
  rcases hr with ⟨_, q1, _⟩ | ⟨b, off, y, q, _⟩
  · exact q1
  · rw [h] at q; cases q

theorem Rowy.cons {q : Nat × Ent} {sz n : Nat} {a : Option Addr} {cs : List Value} (h : Rowy O sz a n cs) : Rowy (q :: O) sz a n cs := by
  rcases h with h | ⟨b, off, y, h1, h2, h3⟩
  · exact .inl h
  · exact .inr ⟨b, off, y, h1, h2.cons, h3⟩
theorem Rowy.app {N : Objs} {sz n : Nat} {a : Option Addr} {cs : List Value} (h : Rowy O sz a n cs) : Rowy (N ++ O) sz a n cs := by
  rcases h with h | ⟨b, off, y, h1, h2, h3⟩
  · exact .inl h
  · exact .inr ⟨b, off, y, h1, Knows.app h2, h3⟩

theorem rowy_ {sz n : Nat} {a : Option Addr} {cs : List Value} (h : Rowy O sz a n cs := by repeat (first | assumption | exact Grow.rowy (by assumption) | apply Rowy.cons | apply Rowy.app)) : Rowy O sz a n cs := h

/-- `x[:hi]` -/
theorem WXL.pre {y z : Operand} {ty e : TypeId} {a : Option Addr} {n c sz m : Nat} {cs : List Value} {k : IntKind} {j : Int} (hw : Met x L ops gd) (hy : evL L y = some (.slice a n c)) (hz : evL L z = some (.int k j))
    (he : elemOf P ty = some e) (hs : szOf P e = some sz) (hr : Rowy O sz a n cs) (hc : a = none → c = 0) (h : WXL P x ops mq (i + 1) l ((d, .slice a m m) :: L) O K) (hj : j = m := by omega) (hm : m ≤ n := by omega) :
    WXL P x ops mq i ({ dst := some d, op := .slice ty y none (some z) none, type := t, pos := p, after := af, guard := gd } :: l) L O K :=
  WXL.val (.inl rfl) hw (fun s hst => by
    subst hj
    have hb : boundA (some (Value.int k (m : Int))) n = some m := by simp [boundA]
    rcases hr with ⟨rfl, rfl, rfl⟩ | ⟨b, off, q, rfl, hk, hq, hl, hcs⟩
    · have hm0 : m = 0 := by omega
      subst hm0
      have hc0 := hc rfl
      subst hc0
      simp only [aop, hst.t.ev hy, Option.map_none, Option.map_some, hst.t.ev hz, sliceA, he, Option.bind_some, hs, hb]
      rfl
    · obtain ⟨f, kk, ho⟩ := hk _ hst.sat
      simp only [aop, hst.t.ev hy, Option.map_none, Option.map_some, hst.t.ev hz, sliceA, he, Option.bind_some, hs, hb, ho]
      rw [show boundA none 0 = some 0 from rfl]
      simp only [Nat.zero_le, hm, hq, and_self, if_true, Nat.zero_mul, Nat.add_zero, Nat.sub_zero, Option.map_some]) h

theorem Spec.frame0 {f : FuncId} {args : Array Value} {Post : Value → Prop} (hf : Spec P false f args (roO O) fun v O' => Post v ∧ O' = roO O) : Spec P true f args O fun v O' => Post v ∧ O' = O :=
  (Spec.frame (Post := fun v N => Post v ∧ N = []) (hf.mono fun v O' ⟨h1, h2⟩ => ⟨[], ⟨h1, rfl⟩, fun p hp => (by simp at hp), h2⟩)).mono fun v O' ⟨N, ⟨h1, h2⟩, h3⟩ => ⟨h1, by rw [h3, h2]; rfl⟩

end Go.Proofs.Ytahaplbdhgfobaa.Eng

set_option linter.unusedVariables false
set_option linter.unusedSimpArgs false
namespace Go.Proofs.Ytahaplbdhgfobaa.Eng
open Go.ChangeShapes Go.WideShapes Go.RowKit

variable {P : Program}

/-- A row of whole numbers that came in. -/
structure Inp where
  k : IntKind
  x : Option Addr
  len : Nat
  cap : Nat
  zs : List Int

structure InpOk (w : World) (n : Inp) : Prop where
  nil : n.x = none → n.len = 0 ∧ n.cap = 0 ∧ n.zs = []
  row : ∀ x, n.x = some x → x.spot = none ∧ x.block < w.heap.size ∧ n.len ≤ n.cap ∧ n.zs.length = n.len ∧ ∀ (i : Nat) z, n.zs[i]? = some z → w.cell? (x.add i) = some (.int n.k z)

def Inp.cs (n : Inp) : List Value := n.zs.map (Value.int n.k)
def Inp.obj (i : Nat) (n : Inp) : AObj := match n.x with
  | none => .dead
  | some _ => .cells 1 true i none 0 n.cs
def Inp.lay (n : Inp) : Option Ext := n.x.map fun x => ⟨x.block, x.off, n.cap, 1, false⟩
def heapIn (ins : List Inp) : AHeap := ⟨ins.length, fun b => match ins[b]? with
  | some n => n.obj b
  | none => .dead⟩
def layIn (ins : List Inp) : Lay := fun b => (ins[b]?).bind Inp.lay
def Inp.val (i : Nat) (n : Inp) : Value := .slice (n.x.map fun _ => ⟨i, 0, none⟩) n.len n.cap
def Inp.real (n : Inp) : Value := .slice n.x n.len n.cap

theorem heapIn_cells {ins : List Inp} {b sz ro f st k c} (h : (heapIn ins).o b = .cells sz ro f st k c) : ∃ n x, ins[b]? = some n ∧ n.x = some x ∧ sz = 1 ∧ ro = true ∧ f = b ∧ st = none ∧ k = 0 ∧ c = n.cs := by
  have h' : (match ins[b]? with | some n => n.obj b | none => AObj.dead) = .cells sz ro f st k c := h
  cases hn : ins[b]? with
  | none => rw [hn] at h'; cases h'
  | some n =>
    rw [hn] at h'
    simp only [Inp.obj] at h'
    cases hx : n.x with
    | none => rw [hx] at h'; cases h'
    | some x =>
      rw [hx] at h'
      simp only [AObj.cells.injEq] at h'
      obtain ⟨h1, h2, h3, h4, h5, h6⟩ := h'
      exact ⟨n, x, rfl, hx, h1.symm, h2.symm, h3.symm, h4.symm, h5.symm, h6.symm⟩

theorem layIn_some {ins : List Inp} {b : Nat} {e : Ext} (h : layIn ins b = some e) : ∃ n x, ins[b]? = some n ∧ n.x = some x ∧ e = ⟨x.block, x.off, n.cap, 1, false⟩ := by
  unfold layIn Inp.lay at h
  cases hn : ins[b]? with
  | none => rw [hn] at h; cases h
  | some n =>
    rw [hn] at h
    simp only [Option.bind_some] at h
    cases hx : n.x with
    | none => rw [hx] at h; cases h
    | some x => rw [hx] at h; exact ⟨n, x, rfl, hx, (Option.some.inj h).symm⟩

theorem heapIn_wf (ins : List Inp) : WF (heapIn ins) := by
  refine ⟨fun b sz ro f m k c h => ?_, fun b sz ro f st k c h => ?_, fun y z f sz1 ro1 st1 k1 c1 sz2 ro2 k2 c2 h1 h2 => ?_, fun b hb => ?_⟩
  · obtain ⟨n, x, _, _, _, _, _, e, _⟩ := heapIn_cells h
    cases e
  · obtain ⟨n, x, _, _, _, _, e, _⟩ := heapIn_cells h
    exact Nat.le_of_eq e
  · obtain ⟨n, x, _, _, _, _, e, _⟩ := heapIn_cells h1
    obtain ⟨n', x', _, _, _, _, e', _⟩ := heapIn_cells h2
    exact fun _ => Nat.le_of_eq (e.symm.trans e')
  · show (match ins[b]? with | some n => n.obj b | none => AObj.dead) = .dead
    rw [List.getElem?_eq_none hb]

theorem heapIn_rel {ins : List Inp} {w : World} (hok : ∀ n ∈ ins, InpOk w n) : HRel w.heap.size (layIn ins) (heapIn ins) w := by
  have hin : ∀ {b n}, ins[b]? = some n → InpOk w n := fun h => hok _ (List.mem_of_getElem? h)
  have hw := heapIn_wf ins
  refine ⟨fun b e h => ?_, fun b e h => ?_, fun b e sz ro f st k c h ho => ?_, fun b e c i v h _ hc hv => ?_, fun b e sz f st k c i h ho => ?_, fun b1 e1 b2 e2 sz1 ro1 f1 st1 k1 c1 sz2 f2 st2 k2 c2 _ _ _ ho => ?_, fun b1 e1 b2 e2 f sz1 ro1 st1 k1 c1 sz2 ro2 st2 k2 c2 _ _ o1 o2 hlt => ?_, hw.wf, hw.fam, hw.uniq, hw.out, fun b e sz ro f st k c h hmp _ => by
    obtain ⟨n, x, hn, hx, rfl⟩ := layIn_some h
    cases hmp⟩
  · obtain ⟨n, x, hn, _⟩ := layIn_some h
    exact (List.getElem?_eq_some_iff.1 hn).1
  · obtain ⟨n, x, hn, hx, rfl⟩ := layIn_some h
    exact ((hin hn).row x hx).2.1
  · obtain ⟨n, x, hn, hx, rfl⟩ := layIn_some h
    obtain ⟨n', x', hn', hx', rfl, rfl, _, _, _, rfl⟩ := heapIn_cells ho
    rw [hn] at hn'
    obtain rfl := Option.some.inj hn'
    obtain ⟨r1, r2, r3, r4, r5⟩ := (hin hn).row x hx
    refine ⟨rfl, fun _ => ?_, (fun q => nomatch q), fun _ y hy => ?_⟩
    · show n.cs.length ≤ n.cap
      unfold Inp.cs
      rw [List.length_map]
      omega
    · obtain ⟨z, _, rfl⟩ := List.mem_map.1 hy
      rfl
  · obtain ⟨n, x, hn, hx, rfl⟩ := layIn_some h
    obtain ⟨r1, r2, r3, r4, r5⟩ := (hin hn).row x hx
    have ho : (heapIn ins).o b = .cells 1 true b none 0 n.cs := by
      show (match ins[b]? with | some n => n.obj b | none => AObj.dead) = _
      rw [hn]
      simp only [Inp.obj, hx]
    unfold AHeap.rd at hc
    rw [ho] at hc
    obtain rfl := Option.some.inj hc
    unfold Inp.cs at hv
    rw [List.getElem?_map] at hv
    obtain ⟨z, hz, rfl⟩ := Option.map_eq_some_iff.1 hv
    refine ⟨_, ?_, .atom rfl⟩
    have := r5 i z hz
    rw [← this]
    congr 1
    obtain ⟨B, o, sp⟩ := x
    simp only at r1
    subst r1
    exact (addr_add B o i).symm
  · obtain ⟨_, _, _, _, _, e, _⟩ := heapIn_cells ho
    cases e
  · obtain ⟨_, _, _, _, _, e, _⟩ := heapIn_cells ho
    cases e
  · obtain ⟨_, _, _, _, _, _, e, _⟩ := heapIn_cells o1
    obtain ⟨_, _, _, _, _, _, e', _⟩ := heapIn_cells o2
    omega

def objsFrom : Nat → List Inp → Objs
  | _, [] => []
  | i, n :: r => match n.x with
    | none => objsFrom (i + 1) r
    | some _ => (i, ⟨1, true, n.cs⟩) :: objsFrom (i + 1) r

theorem objsFrom_mem : ∀ {ins : List Inp} {i : Nat} {p : Nat × Ent}, p ∈ objsFrom i ins → ∃ j n x, ins[j]? = some n ∧ n.x = some x ∧ p = (i + j, ⟨1, true, n.cs⟩)
  | n :: r, i, p, h => by
    unfold objsFrom at h
    cases hx : n.x with
    | none =>
      rw [hx] at h
      obtain ⟨j, m, x, h1, h2, h3⟩ := objsFrom_mem h
      exact ⟨j + 1, m, x, h1, h2, by rw [h3]; congr 1; omega⟩
    | some y =>
      rw [hx] at h
      rcases List.mem_cons.1 h with h | h
      · exact ⟨0, n, y, rfl, hx, h⟩
      · obtain ⟨j, m, x, h1, h2, h3⟩ := objsFrom_mem h
        exact ⟨j + 1, m, x, h1, h2, by rw [h3]; congr 1; omega⟩

theorem mem_objsFrom : ∀ {ins : List Inp} {i j : Nat} {n : Inp} {x : Addr}, ins[j]? = some n → n.x = some x → (i + j, (⟨1, true, n.cs⟩ : Ent)) ∈ objsFrom i ins
  | m :: r, i, 0, n, x, h1, h2 => by
    obtain rfl := Option.some.inj h1
    unfold objsFrom
    rw [h2]
    exact List.mem_cons_self ..
  | m :: r, i, j + 1, n, x, h1, h2 => by
    have := mem_objsFrom (i := i + 1) (j := j) (ins := r) h1 h2
    rw [show i + 1 + j = i + (j + 1) by omega] at this
    unfold objsFrom
    cases m.x with
    | none => exact this
    | some y => exact List.mem_cons_of_mem _ this

theorem objsFrom_nodup : ∀ (ins : List Inp) (i : Nat), ((objsFrom i ins).map (·.1)).Nodup
  | [], _ => by simp [objsFrom]
  | n :: r, i => by
    unfold objsFrom
    have ih := objsFrom_nodup r (i + 1)
    cases n.x with
    | none => exact ih
    | some x =>
      rw [List.map_cons, List.nodup_cons]
      refine ⟨fun hm => ?_, ih⟩
      obtain ⟨p, hp, he⟩ := List.mem_map.1 hm
      obtain ⟨j, m, y, _, _, rfl⟩ := objsFrom_mem hp
      simp only at he
      omega

abbrev objsIn (ins : List Inp) : Objs := objsFrom 0 ins

theorem heapIn_sat (ins : List Inp) : Sat (heapIn ins) (objsIn ins) := by
  refine ⟨objsFrom_nodup ins 0, fun p hp => ?_, heapIn_wf ins⟩
  obtain ⟨j, n, x, h1, h2, rfl⟩ := objsFrom_mem hp
  refine ⟨j, 0, ?_⟩
  show (match ins[0 + j]? with | some n => n.obj (0 + j) | none => AObj.dead) = _
  rw [Nat.zero_add, h1]
  simp only [Inp.obj, h2]

theorem src_in {ins : List Inp} {w : World} (hok : ∀ n ∈ ins, InpOk w n) (j : Nat) {n : Inp} (hn : ins[j]? = some n) : Src (objsIn ins) 1 (n.val j) n.len n.cs := by
  have ho := hok n (List.mem_of_getElem? hn)
  unfold Inp.val
  cases hx : n.x with
  | none =>
    obtain ⟨h1, h2, h3⟩ := ho.nil hx
    unfold Inp.cs
    rw [h1, h2, h3]
    exact Src.nil
  | some x =>
    obtain ⟨r1, r2, r3, r4, r5⟩ := ho.row x hx
    have hm := mem_objsFrom (i := 0) hn hx
    rw [Nat.zero_add] at hm
    refine Src.of (y := ⟨1, true, n.cs⟩) (Knows.mem hm) ?_ ?_
    · show 0 + n.len * 1 ≤ n.cs.length
      unfold Inp.cs
      rw [List.length_map]
      omega
    · show (n.cs.drop 0).take (n.len * 1) = n.cs
      rw [List.drop_zero, List.take_of_length_le]
      unfold Inp.cs
      rw [List.length_map]
      omega

theorem val_rel {ins : List Inp} {w : World} (hok : ∀ n ∈ ins, InpOk w n) (j : Nat) {n : Inp} (hn : ins[j]? = some n) : VRel (layIn ins) (n.val j) n.real := by
  have ho := hok n (List.mem_of_getElem? hn)
  unfold Inp.val Inp.real
  cases hx : n.x with
  | none => exact .atom rfl
  | some x =>
    obtain ⟨r1, r2, r3, r4, r5⟩ := ho.row x hx
    have hl : layIn ins j = some ⟨x.block, x.off, n.cap, 1, false⟩ := by
      unfold layIn Inp.lay
      rw [hn, Option.bind_some, hx]
      rfl
    have := VRel.slice (ι := layIn ins) (b := j) (o := 0) (l := n.len) (c := n.cap) (c' := n.cap) hl rfl r3 (by simp)
    obtain ⟨B, o, sp⟩ := x
    simp only at r1
    subst r1
    exact this

def RelL (ι : Lay) : List Value → List Value → Prop
  | [], [] => True
  | x :: xs, y :: ys => VRel ι x y ∧ RelL ι xs ys
  | _, _ => False

theorem RelL.arr {ι : Lay} : ∀ {xs ys : List Value}, RelL ι xs ys → ARel ι xs.toArray ys.toArray := by
  have key : ∀ {xs ys : List Value}, RelL ι xs ys → ys.length = xs.length ∧ ∀ (i : Nat) x y, xs[i]? = some x → ys[i]? = some y → VRel ι x y := by
    intro xs
    induction xs with
    | nil =>
      intro ys h
      cases ys with
      | nil => exact ⟨rfl, fun i x y hx _ => by simp at hx⟩
      | cons y ys => exact h.elim
    | cons x xs ih =>
      intro ys h
      cases ys with
      | nil => exact h.elim
      | cons y ys =>
        obtain ⟨h1, h2⟩ := h
        obtain ⟨g1, g2⟩ := ih h2
        refine ⟨by simp [g1], fun i a b ha hb => ?_⟩
        cases i with
        | zero =>
          obtain rfl := Option.some.inj ha
          obtain rfl := Option.some.inj hb
          exact h1
        | succ i => exact g2 i a b (by simpa using ha) (by simpa using hb)
  intro xs ys h
  obtain ⟨h1, h2⟩ := key h
  exact ⟨by simpa using h1, fun i x y hx hy => h2 i x y (by simpa using hx) (by simpa using hy)⟩

theorem rowy_in {ins : List Inp} {w : World} (hok : ∀ n ∈ ins, InpOk w n) (j : Nat) {n : Inp} (hn : ins[j]? = some n) : Rowy (objsIn ins) 1 (n.x.map fun _ => ⟨j, 0, none⟩) n.len n.cs := by
  have ho := hok n (List.mem_of_getElem? hn)
  cases hx : n.x with
  | none =>
    obtain ⟨h1, h2, h3⟩ := ho.nil hx
    refine .inl ⟨rfl, h1, ?_⟩
    unfold Inp.cs
    rw [h3]; rfl
  | some x =>
    obtain ⟨r1, r2, r3, r4, r5⟩ := ho.row x hx
    have hm := mem_objsFrom (i := 0) hn hx
    rw [Nat.zero_add] at hm
    refine .inr ⟨j, 0, ⟨1, true, n.cs⟩, rfl, Knows.mem hm, rfl, ?_, ?_⟩
    · show 0 + n.len * 1 ≤ n.cs.length
      unfold Inp.cs
      rw [List.length_map]
      omega
    · show (n.cs.drop 0).take (n.len * 1) = n.cs
      rw [List.drop_zero, List.take_of_length_le]
      unfold Inp.cs
      rw [List.length_map]
      omega

theorem nil_in {ins : List Inp} {w : World} (hok : ∀ n ∈ ins, InpOk w n) (j : Nat) {n : Inp} (hn : ins[j]? = some n) : (n.x.map fun _ => (⟨j, 0, none⟩ : Addr)) = none → n.cap = 0 := by
  intro h
  have ho := hok n (List.mem_of_getElem? hn)
  cases hx : n.x with
  | none => exact (ho.nil hx).2.1
  | some x => rw [hx] at h; cases h

/-- The call of a law. -/
theorem law_calls (hm : P.follows .mixedOrders = true) {W : World} {ins : List Inp} (hok : ∀ n ∈ ins, InpOk W n) {f : FuncId} {args args' : List Value} (hs : Spec P false f args.toArray (objsIn ins) fun v _ => v = .bool true)
    (ha : RelL (layIn ins) args args') : Calls P f args'.toArray W fun e W' => e = .returned (.bool true) ∧ Below W.heap.size W W' := by
  obtain ⟨v, h', O', b1, rfl, s', _⟩ := hs (heapIn ins) (heapIn_sat ins)
  refine (call_sound hm b1 W.heap.size (layIn ins) W args'.toArray (heapIn_rel hok) (Nat.le_refl _) CtxOk.none ha.arr).mono fun e w' ⟨ι', v', e1, m, vr, hr, k⟩ => ?_
  have hst : Stay (heapIn ins) h' := stayJ b1
  refine ⟨by rw [e1, vr.plain rfl], ⟨k.os, k.tape, k.output, k.size, fun B hB => k.block B hB fun b e hb _ => .inl ?_⟩⟩
  obtain ⟨n, x, hn, hx, _⟩ := layIn_some hb
  refine hst.2 b (List.getElem?_eq_some_iff.1 hn).1 ?_
  show isRo (match ins[b]? with | some n => n.obj b | none => AObj.dead) = true
  rw [hn]
  simp only [Inp.obj, hx]
  rfl

/-- A row of whole numbers that came in, out of what is told of the arguments. -/
theorem inp_of {H : Type} {enc : TypeId × Value → H} {W : World} {base b0 : Nat} {held : Bool} {t e : TypeId} {k : IntKind} {a : Option Addr} {len cap : Nat} {d : DataW H} {ps : List MemPlace}
    (hu : P.underlying t = some (.slice e)) (he : P.underlying e = some (.int k)) (hc : P.cellsOf e = 1) (hv : Value.okWide P W .any b0 t (.slice a len cap)) (h : DataW.Trod enc P W base (fun _ => true) held t (.slice a len cap) d ps) :
    ∃ zs : List Int, InpOk W ⟨k, a, len, cap, zs⟩ ∧ zs.length = len ∧ ∀ n ∈ zs, (Lit.int k n).wf = true := by
  obtain ⟨fuel, hf⟩ := h
  rcases open_ints hu he hc hf with ⟨hcs, _⟩ | ⟨x, l, c, zs, hcs, _, hl, hm, hz, _, hcell, hwz⟩
  · simp [Value.cells] at hcs
    obtain ⟨rfl, rfl, rfl⟩ := hcs
    exact ⟨[], ⟨fun _ => ⟨rfl, rfl, rfl⟩, fun x hx => (by cases hx)⟩, rfl, fun n hn => by simp at hn⟩
  · simp [Value.cells] at hcs
    obtain ⟨rfl, rfl, rfl⟩ := hcs
    have hz' : zs.length = cap := by simpa using hz
    have hhas : len ≤ cap ∧ (cap : Int) ≤ IntKind.i64.max ∧ W.has P .any b0 x e cap := by
      simpa only [Value.okWide, hu, Cell.okWide, Cell.ok] using hv
    obtain ⟨_, _, _, hsp, row, cells, hsh, _⟩ := hhas
    have hblk : x.block < W.heap.size := by
      unfold World.shape? at hsh
      split at hsh
      · rename_i q
        exact (Array.getElem?_eq_some_iff.1 q).1
      · cases hsh
    refine ⟨zs.take len, ⟨fun q => (by cases q), fun y hy => ?_⟩, by rw [List.length_take]; omega, fun n hn => hwz n (List.mem_of_mem_take hn)⟩
    obtain rfl := Option.some.inj hy
    refine ⟨hsp, hblk, hl, by show (zs.take len).length = len; rw [List.length_take]; omega, fun i z hiz => ?_⟩
    simp only at hiz
    rw [List.getElem?_take] at hiz
    split at hiz
    · have hi := (List.getElem?_eq_some_iff.1 hiz).1
      have := hcell i hi
      rw [this, List.getD_eq_getElem?_getD, hiz]
      rfl
    · cases hiz

theorem sized_in {H : Type} {enc : TypeId × Value → H} {W : World} {base : Nat} {spare : Nat → Bool} {held : Bool} {t e : TypeId} {k : IntKind} {a : Option Addr} {len cap : Nat} {d : DataW H} {ps : List MemPlace} {ts : List TypeId} {ds : List (DataW H)} {j : Nat}
    (hsz : (DataW.weightsEach P ts ds).all (· ≤ reachBytes) = true) (ht : ts[j]? = some t) (hd : ds[j]? = some d) (hu : P.underlying t = some (.slice e)) (he : P.underlying e = some (.int k)) (hc : P.cellsOf e = 1) {B : Nat} (hB : P.bytesOf e = B)
    (h : DataW.Trod enc P W base spare held t (.slice a len cap) d ps) : len * B ≤ 140737488351232 := by
  obtain ⟨fuel, hf⟩ := h
  rcases open_ints hu he hc hf with ⟨hcs, _⟩ | ⟨x, l, c, zs, hcs, _, hl, _, hz, hx, _, _⟩
  · simp [Value.cells] at hcs
    obtain ⟨rfl, rfl, rfl⟩ := hcs
    simp
  · simp [Value.cells] at hcs
    obtain ⟨rfl, rfl, rfl⟩ := hcs
    obtain ⟨hx, _⟩ := Prod.mk.inj hx
    subst hx
    have z := sized_slice hsz ht hd hu
    rw [hB] at z
    have hl2 : len ≤ zs.length := by
      rw [hz]
      split
      · exact hl
      · exact Nat.le_refl _
    have h1 : (lits (H := H) k (zs.take len)).length + (lits (H := H) k (zs.drop len)).length = zs.length := by
      simp [lits]
      omega
    rw [h1] at z
    exact Nat.le_trans (Nat.mul_le_mul_right _ hl2) z

theorem wf64 {n : Int} (h : (Lit.int .i64 n).wf = true) : -9223372036854775808 ≤ n ∧ n ≤ 9223372036854775807 := by
  simp only [Lit.wf, Bool.and_eq_true, decide_eq_true_eq] at h
  exact h

theorem wf8 {n : Int} (h : (Lit.int .u8 n).wf = true) : 0 ≤ n ∧ n ≤ 255 := by
  simp only [Lit.wf, Bool.and_eq_true, decide_eq_true_eq] at h
  exact h

end Go.Proofs.Ytahaplbdhgfobaa.Eng

set_option linter.unusedVariables false
namespace Go.Proofs.Ytahaplbdhgfobaa.Eng
open Go Go.Proofs Go.RowKit Go.Maps Go.Sort Go.Shelf
set_option maxRecDepth 100000
def keysA_ren : Go.Shelf.Ren := ⟨fun | 7 => 54 | 10 => 62 | n => n, fun | 0 => 0 | 3 => 71 | 4 => 4 | 23 => 66 | 26 => 3 | 27 => 85 | 28 => 86 | 33 => 69 | n => n, fun n => n⟩
theorem keysA : SlLaysZI.n7 Try.prog keysA_ren where
  mixed := Checked.mixed Try.checked
  f7 := ⟨"maps.Keys[map[int]skymosaic/disk.file,int,skymosaic/disk.file]", by decide, Try.func54.trans (congrArg some (by kernel_rfl))⟩
  f10 := ⟨"maps.Keys[map[int]skymosaic/disk.file,int,skymosaic/disk.file]$1", by decide, Try.func62.trans (congrArg some (by kernel_rfl))⟩
  t0 := Try.underlying0
  a0 := Try.isAgg0
  z0 := Try.sizeOf0
  v0 := Try.zeroValue0
  t4 := Try.underlying4
  a4 := Try.isAgg4
  z4 := Try.sizeOf4
  v4 := Try.zeroValue4
  t23 := Try.underlying66
  a23 := Try.isAgg66
  z23 := Try.sizeOf66
  v23 := Try.zeroValue66
  t26 := Try.underlying3
  a26 := Try.isAgg3
  z26 := Try.sizeOf3
  v26 := Try.zeroValue3
  t27 := Try.underlying85
  a27 := Try.isAgg85
  z27 := Try.sizeOf85
  v27 := Try.zeroValue85
  t28 := Try.underlying86
  a28 := Try.isAgg86
  z28 := Try.sizeOf86
  v28 := Try.zeroValue86
  t33 := Try.underlying69
  a33 := Try.isAgg69
  z33 := Try.sizeOf69
  v33 := Try.zeroValue69
def sortedA_ren : Go.Shelf.Ren := ⟨fun | 6 => 53 | 8 => 60 | 9 => 61 | 11 => 65 | 12 => 66 | 13 => 67 | 14 => 68 | 15 => 69 | 16 => 70 | 17 => 71 | 18 => 72 | 19 => 73 | 20 => 74 | 21 => 75 | 22 => 76 | 23 => 77 | 24 => 78 | 25 => 79 | 26 => 80 | 27 => 81 | 28 => 82 | 29 => 83 | 30 => 84 | 31 => 85 | n => n, fun | 0 => 0 | 3 => 3 | 4 => 4 | 5 => 5 | 9 => 9 | 24 => 33 | 26 => 3 | 28 => 86 | 33 => 69 | 37 => 77 | 39 => 97 | 40 => 98 | 45 => 103 | 48 => 106 | 50 => 61 | 51 => 108 | 55 => 112 | 57 => 114 | 58 => 115 | n => n, fun n => n⟩
theorem sortedA : SlLaysZI.n6 Try.prog sortedA_ren where
  mixed := Checked.mixed Try.checked
  f6 := ⟨"slices.Sorted[int]", by decide, Try.func53.trans (congrArg some (by kernel_rfl))⟩
  f8 := ⟨"slices.Collect[int]", by decide, Try.func60.trans (congrArg some (by kernel_rfl))⟩
  f11 := ⟨"slices.AppendSeq[[]int,int]", by decide, Try.func65.trans (congrArg some (by kernel_rfl))⟩
  t0 := Try.underlying0
  a0 := Try.isAgg0
  z0 := Try.sizeOf0
  v0 := Try.zeroValue0
  t24 := Try.underlying33
  a24 := Try.isAgg33
  z24 := Try.sizeOf33
  v24 := Try.zeroValue33
  t26 := Try.underlying3
  a26 := Try.isAgg3
  z26 := Try.sizeOf3
  v26 := Try.zeroValue3
  t28 := Try.underlying86
  a28 := Try.isAgg86
  z28 := Try.sizeOf86
  v28 := Try.zeroValue86
  i26 := by kernel_rfl
def sortA_ren : Go.Shelf.Ren := ⟨fun | 5 => 61 | 7 => 66 | 8 => 67 | 10 => 68 | 11 => 69 | 12 => 70 | 13 => 71 | 14 => 72 | 15 => 73 | 16 => 74 | 17 => 75 | 18 => 76 | 19 => 77 | 20 => 78 | 30 => 79 | 31 => 80 | 32 => 81 | 33 => 82 | 34 => 83 | 35 => 84 | 40 => 85 | n => n, fun | 0 => 0 | 3 => 3 | 4 => 4 | 5 => 5 | 9 => 9 | 22 => 33 | 23 => 33 | 25 => 3 | 32 => 77 | 35 => 97 | 36 => 98 | 41 => 103 | 44 => 106 | 46 => 61 | 53 => 108 | 57 => 112 | 63 => 114 | 64 => 115 | n => n, fun n => n⟩
theorem sortA : SlLaysM.n5 Try.prog sortA_ren where
  mixed := Checked.mixed Try.checked
  f5 := ⟨"slices.Sort[[]int,int]", by decide, Try.func61.trans (congrArg some (by kernel_rfl))⟩
  f7 := ⟨"slices.pdqsortOrdered[int]", by decide, Try.func66.trans (congrArg some (by kernel_rfl))⟩
  f8 := Try.func67.trans (congrArg some (by kernel_rfl))
  f10 := ⟨"slices.insertionSortOrdered[int]", by decide, Try.func68.trans (congrArg some (by kernel_rfl))⟩
  f11 := ⟨"slices.heapSortOrdered[int]", by decide, Try.func69.trans (congrArg some (by kernel_rfl))⟩
  f12 := ⟨"slices.breakPatternsOrdered[int]", by decide, Try.func70.trans (congrArg some (by kernel_rfl))⟩
  f13 := ⟨"slices.choosePivotOrdered[int]", by decide, Try.func71.trans (congrArg some (by kernel_rfl))⟩
  f14 := ⟨"slices.reverseRangeOrdered[int]", by decide, Try.func72.trans (congrArg some (by kernel_rfl))⟩
  f15 := ⟨"slices.partialInsertionSortOrdered[int]", by decide, Try.func73.trans (congrArg some (by kernel_rfl))⟩
  f16 := ⟨"cmp.Less[int]", by decide, Try.func74.trans (congrArg some (by kernel_rfl))⟩
  f17 := ⟨"slices.partitionEqualOrdered[int]", by decide, Try.func75.trans (congrArg some (by kernel_rfl))⟩
  f18 := ⟨"slices.partitionOrdered[int]", by decide, Try.func76.trans (congrArg some (by kernel_rfl))⟩
  f19 := Try.func77.trans (congrArg some (by kernel_rfl))
  f20 := Try.func78.trans (congrArg some (by kernel_rfl))
  f30 := ⟨"slices.siftDownOrdered[int]", by decide, Try.func79.trans (congrArg some (by kernel_rfl))⟩
  f31 := Try.func80.trans (congrArg some (by kernel_rfl))
  f32 := Try.func81.trans (congrArg some (by kernel_rfl))
  f33 := ⟨"slices.medianAdjacentOrdered[int]", by decide, Try.func82.trans (congrArg some (by kernel_rfl))⟩
  f34 := ⟨"slices.medianOrdered[int]", by decide, Try.func83.trans (congrArg some (by kernel_rfl))⟩
  f35 := ⟨"cmp.isNaN[int]", by decide, Try.func84.trans (congrArg some (by kernel_rfl))⟩
  f40 := ⟨"slices.order2Ordered[int]", by decide, Try.func85.trans (congrArg some (by kernel_rfl))⟩
  t0 := Try.underlying0
  a0 := Try.isAgg0
  z0 := Try.sizeOf0
  v0 := Try.zeroValue0
  t3 := Try.underlying3
  a3 := Try.isAgg3
  z3 := Try.sizeOf3
  v3 := Try.zeroValue3
  t4 := Try.underlying4
  a4 := Try.isAgg4
  z4 := Try.sizeOf4
  v4 := Try.zeroValue4
  t5 := Try.underlying5
  a5 := Try.isAgg5
  z5 := Try.sizeOf5
  v5 := Try.zeroValue5
  t9 := Try.underlying9
  a9 := Try.isAgg9
  z9 := Try.sizeOf9
  v9 := Try.zeroValue9
  t22 := Try.underlying33
  a22 := Try.isAgg33
  z22 := Try.sizeOf33
  v22 := Try.zeroValue33
  t23 := Try.underlying33
  a23 := Try.isAgg33
  z23 := Try.sizeOf33
  v23 := Try.zeroValue33
  t25 := Try.underlying3
  a25 := Try.isAgg3
  z25 := Try.sizeOf3
  v25 := Try.zeroValue3
  t32 := Try.underlying77
  a32 := Try.isAgg77
  z32 := Try.sizeOf77
  v32 := Try.zeroValue77
  t35 := Try.underlying97
  a35 := Try.isAgg97
  z35 := Try.sizeOf97
  v35 := Try.zeroValue97
  t36 := Try.underlying98
  a36 := Try.isAgg98
  z36 := Try.sizeOf98
  v36 := Try.zeroValue98
  t41 := Try.underlying103
  a41 := Try.isAgg103
  z41 := Try.sizeOf103
  v41 := Try.zeroValue103
  t44 := Try.underlying106
  a44 := Try.isAgg106
  z44 := Try.sizeOf106
  v44 := Try.zeroValue106
  t46 := Try.underlying61
  a46 := Try.isAgg61
  z46 := Try.sizeOf61
  v46 := Try.zeroValue61
  t53 := Try.underlying108
  a53 := Try.isAgg108
  z53 := Try.sizeOf108
  v53 := Try.zeroValue108
  t57 := Try.underlying112
  a57 := Try.isAgg112
  z57 := Try.sizeOf112
  v57 := Try.zeroValue112
  t63 := Try.underlying114
  a63 := Try.isAgg114
  z63 := Try.sizeOf114
  v63 := Try.zeroValue114
  t64 := Try.underlying115
  a64 := Try.isAgg115
  z64 := Try.sizeOf115
  v64 := Try.zeroValue115
end Go.Proofs.Ytahaplbdhgfobaa.Eng

set_option linter.unusedVariables false
set_option linter.unusedSimpArgs false
namespace Go.Proofs.Ytahaplbdhgfobaa.Eng

variable {P : Program} {x : Cx} {L L' : Tmps} {O O' : Objs}

/-- What a call of `yield` comes to. -/
def SpecY (P : Program) (ρ : Rho) (b : Nat) (args : List Value) (O : Objs) (Post : Objs → Prop) : Prop :=
  ∀ h, Sat h O → ∃ c s1 s2 O', ρ.c b = some c ∧ args.length = c.ps.size ∧ (∀ t ∈ c.ps, t < c.m) ∧ Big P drv (ρ.del b) (.code c.assign ⟨c.m, setAll (c.ps.zip args.toArray).toList c.t, h⟩ .normal s1) ∧
    Big P drv (ρ.del b) (.code c.body s1 .normal s2) ∧ Post O' ∧ Sat s2.h O'

theorem args_eval {s : ASt} (ht : Has s.t L) : ∀ (l : List Operand) (vs : List Value), evArgs L l = some vs → l.map s.ev = vs := by
  intro l
  induction l with
  | nil => intro vs h; simp [evArgs] at h; subst h; rfl
  | cons y l ih =>
    intro vs h
    unfold evArgs at h
    split at h
    · rename_i v us h1 h2
      obtain rfl := Option.some.inj h
      rw [List.map_cons, ih us h2, ht.ev h1]
    · cases h

/-- A call of `yield`. -/
theorem WXL.yield {ops : Array Oper} {mq : Mk} {i : Nat} {g : Operand} {aas : Array Operand} {ts : Array TypeId} {dst : Option Tmp} {t : TypeId} {p : String} {af : Array Edge} {gd : Option (Nat × Bool)} {l : List Oper} {K : ASt → Prop}
    {b : Nat} {vs : List Value} {O1 : Objs} {Post : Objs → Prop} (hw : Met x L ops gd) (hf : evL L g = some (Yd b)) (ha : evArgs L aas.toList = some vs) (hO : ∀ h, Sat h O → Sat h O1)
    (hd : mq.d = false) (hq1 : mq.q i = false) (hq2 : x.q = false) (hq3 : mq.Z = []) (hspec : SpecY P x.ρ b vs O1 Post)
    (h : ∀ O', Post O' → WXL P x ops mq (i + 1) l (putL dst (.bool true) L) O' K) :
    WXL P x ops mq i ({ dst := dst, op := .call { callee := .value g, args := aas, argTypes := ts }, type := t, pos := p, after := af, guard := gd } :: l) L O K := by
  intro hdr hqk s hs hz
  obtain ⟨ho, hd'⟩ := drop_head hdr
  obtain ⟨c, s1, s2, O', b1, b2, b3, b4, b5, b6, b7⟩ := hspec s.h (hO _ hs.sat)
  have hargs : aas.map s.ev = vs.toArray := by
    apply Array.toList_inj.1
    rw [Array.toList_map, args_eval hs.t _ _ ha]
  have hye : yieldee { dst := dst, op := .call { callee := .value g, args := aas, argTypes := ts }, type := t, pos := p, after := af, guard := gd } s = some (b, vs.toArray) := by
    unfold yieldee
    simp only [hs.t.ev hf, hargs, Yd]
  have hst : St x (putL dst (.bool true) L) O' (s.put dst (.bool true) s2.h) := by
    refine ⟨by rw [put_m]; exact hs.m, ?_, by rw [put_h]; exact b7, fun hx => by rw [hq2] at hx; cases hx⟩
    cases dst with
    | some d => exact hs.t.put _ _ _
    | none => exact hs.t
  obtain ⟨s', g1, g2, g3⟩ := h O' b6 hd' hqk _ hst (fun z hm => by rw [hq3] at hm; simp at hm)
  have hrho : mq.rho x.ρ = x.ρ := by unfold Mk.rho; rw [hd]; rfl
  rw [hrho] at g1 ⊢
  refine ⟨s', .opyield ho (hw s hs.t _ rfl) hye b1 (by simpa using b2) b3 b4 b5 (fun hm => by rw [hq1] at hm; cases hm) ?_ (fun z hm => by rw [hq3] at hm; simp at hm) g1, by rw [g2, put_m], g3⟩
  cases hl : mq.lz i with
  | false => rfl
  | true => exact absurd ((flags_at hqk ho).2 hl) (by simp [isLoadOp])

def setL : List (Tmp × Value) → Tmps → Tmps
  | [], L => L
  | (d, v) :: l, L => setL l ((d, v) :: L)

theorem Has.setAll : ∀ {l : List (Tmp × Value)} {t : Nat → Value} {L : Tmps}, Has t L → Has (setAll l t) (setL l L)
  | [], _, _, h => h
  | (d, v) :: l, t, L, h => by
    refine Has.setAll (l := l) (t := fun i => if i = d then v else t i) ?_
    intro e u he
    unfold getT at he
    show (if e = d then v else t e) = u
    cases hb : Nat.beq d e with
    | true =>
      rw [hb] at he
      rw [if_pos (Nat.eq_of_beq_eq_true hb).symm]
      exact Option.some.inj he
    | false =>
      rw [hb] at he
      rw [if_neg fun e' => by subst e'; simp at hb]
      exact h e u he

/-- The end of a round. -/
def roundW {β : Type} (OI : β → Objs) (Inv : β → Prop) : Exit → ASt → Prop
  | .normal, s => ∃ y, Inv y ∧ Sat s.h (OI y)
  | _, _ => False

theorem Fin.round {β : Type} {OI : β → Objs} {Inv : β → Prop} (y : β) (hy : Inv y) (hO : ∀ h, Sat h O → Sat h (OI y)) : Fin x L O .normal (roundW OI Inv) := fun s hs => ⟨y, hy, hO _ hs.sat⟩

/-- A loop over a function that yields `n` times; what it yields may lie in new objects. -/
theorem WX.rangeFuncA {β : Type} (OI : β → Objs) (Inv : Nat → β → Prop) (Arg : Nat → β → List Value → Objs → Prop) (n : Nat) (y0 : β) {g : Operand} {ps : Array Tmp} {assign body : Code} {Q : Exit → ASt → Prop} {gf : FuncId} {lb : Array Value}
    (hx : x.ρ.can) (hg : evL L g = some (.func (.func gf) #[] lb)) (hok : fnOk P gf = true) (hO : ∀ s, St x L O s → Sat s.h (OI y0)) (hxq : x.q = false) (h0 : Inv 0 y0) (hargs : ∀ k y vs N, Arg k y vs N → vs.length = ps.size)
    (hiter : ∀ (ρ : Rho) (b : Nat), (∀ k y vs N, k < n → Inv k y → Arg k y vs N → SpecY P ρ b vs (N ++ OI y) fun O' => ∃ y', Inv (k + 1) y' ∧ O' = OI y') → SpecIn P ρ false gf (Yd b :: lb.toList).toArray (OI y0) fun v O' => ∃ y', Inv n y' ∧ O' = OI y')
    (hbody : ∀ (h0 : AHeap) (ρ : Rho) k y vs N, k < n → Inv k y → Arg k y vs N → WX P ⟨x.m, false, h0, ρ⟩ (.seq assign body) (setL (ps.toList.zip vs) L) (N ++ OI y) (roundW OI (Inv (k + 1))))
    (h : ∀ y, Inv n y → Fin x L (OI y) .normal Q) : WX P x (.rangeFunc g ps assign body) L O Q := by
  intro s hs hk
  simp only [codeOk, Bool.and_eq_true, List.all_eq_true] at hk
  obtain ⟨⟨⟨k1, k2⟩, k3⟩, k4⟩ := hk
  have hps : ∀ t ∈ ps, t < s.m := fun t ht => by
    have := k2 t (Array.mem_toList_iff.2 ht)
    simpa [Nat.blt_eq] using this
  have hsat := hO s hs
  have hb : Sat s.h.bump (OI y0) := ⟨hsat.nd, fun p hp => hsat.is p hp, ⟨fun b sz ro f m k c ho => by
      obtain ⟨q1, q2⟩ := hsat.wf.wf b sz ro f m k c ho
      exact ⟨Nat.lt_succ_of_lt q1, q2⟩, hsat.wf.fam, hsat.wf.uniq, fun b hb => hsat.wf.out b (Nat.le_of_succ_le hb)⟩⟩
  obtain ⟨v, h', O', b1, ⟨y', b2, b3⟩, b4, _⟩ := hiter (x.ρ.add s.h.n ⟨s.m, s.t, ps, assign, body⟩) s.h.n (fun k y vs N hk hy hvs g hg => by
    obtain ⟨e, s', r1, r2, r3⟩ := hbody g ((x.ρ.add s.h.n ⟨s.m, s.t, ps, assign, body⟩).del s.h.n) k y vs N hk hy hvs ⟨s.m, setAll (ps.zip vs.toArray).toList s.t, g⟩
      ⟨hs.m, by rw [Array.toList_zip]; exact hs.t.setAll, hg, fun q => by cases q⟩ (by
        show codeOk s.m (.seq assign body) = true
        simp only [codeOk, k3, k4, Bool.and_self])
    cases e with
    | normal =>
      obtain ⟨y2, i1, i2⟩ := r3
      cases r1 with
      | seq_n t1 t2 => exact ⟨_, _, _, _, by unfold Rho.add; exact if_pos rfl, hargs k y vs N hvs, hps, t1, t2, ⟨y2, i1, rfl⟩, i2⟩
      | seq_x t1 t2 => exact absurd rfl t2
    | _ => exact r3.elim) s.h.bump hb
  subst b3
  refine ⟨.normal, { s with h := h' }, .rangeFunc (v := v) hx k1 (hs.t.ev hg) hps hok ?_, rfl, h y' b2 _ ⟨hs.m, hs.t, b4, fun q => by rw [hxq] at q; cases q⟩⟩
  have : (#[Yd s.h.n] ++ lb) = (Yd s.h.n :: lb.toList).toArray := by apply Array.toList_inj.1; simp
  rw [this]
  exact b1

/-- A loop over a function that yields `n` times. -/
theorem WX.rangeFunc {β : Type} (OI : β → Objs) (Inv : Nat → β → Prop) (n : Nat) (arg : Nat → List Value) (y0 : β) {g : Operand} {ps : Array Tmp} {assign body : Code} {Q : Exit → ASt → Prop} {gf : FuncId} {lb : Array Value}
    (hx : x.ρ.can) (hg : evL L g = some (.func (.func gf) #[] lb)) (hok : fnOk P gf = true) (hO : ∀ s, St x L O s → Sat s.h (OI y0)) (hxq : x.q = false) (h0 : Inv 0 y0) (hargs : ∀ k, (arg k).length = ps.size)
    (hiter : ∀ (ρ : Rho) (b : Nat), (∀ k y, k < n → Inv k y → SpecY P ρ b (arg k) (OI y) fun O' => ∃ y', Inv (k + 1) y' ∧ O' = OI y') → SpecIn P ρ false gf (Yd b :: lb.toList).toArray (OI y0) fun v O' => ∃ y', Inv n y' ∧ O' = OI y')
    (hbody : ∀ (h0 : AHeap) (ρ : Rho) k y, k < n → Inv k y → WX P ⟨x.m, false, h0, ρ⟩ (.seq assign body) (setL (ps.toList.zip (arg k)) L) (OI y) (roundW OI (Inv (k + 1))))
    (h : ∀ y, Inv n y → Fin x L (OI y) .normal Q) : WX P x (.rangeFunc g ps assign body) L O Q   :=
  WX.rangeFuncA OI Inv (fun k _ vs N => vs = arg k ∧ N = []) n y0 hx hg hok hO hxq h0 (fun k y vs N ⟨q, _⟩ => by rw [q]; exact hargs k) (fun ρ b hy => hiter ρ b fun k y hk hi => hy k y (arg k) [] hk hi ⟨rfl, rfl⟩)
    (fun h0 ρ k y vs N hk hi ⟨q1, q2⟩ => by subst q1 q2; exact hbody h0 ρ k y hk hi) h

end Go.Proofs.Ytahaplbdhgfobaa.Eng

set_option linter.unusedVariables false
set_option linter.unusedSimpArgs false
namespace Go.Proofs.Ytahaplbdhgfobaa.Eng

variable {P : Program} {x : Cx} {L L' : Tmps} {O O' : Objs} {ops : Array Oper} {mq : Mk} {i : Nat} {l : List Oper} {K : ASt → Prop}
  {t u : TypeId} {p : String} {af : Array Edge} {gd : Option (Nat × Bool)} {d : Tmp}

/-- A byte, and a number without a sign. -/
def B8 (n : Int) : Value := .int .u8 n
def U (n : Int) : Value := .int .u64 n

def Bytes (l : List Int) : Prop := ∀ b ∈ l, 0 ≤ b ∧ b < 256

/-- The string of these bytes. -/
def bstr (l : List Int) : ByteArray := ⟨(l.map fun b => UInt8.ofNat b.toNat).toArray⟩

theorem strOf_bytes : ∀ (l : List Int) (s : ByteArray), strOf (l.map B8) s = some ⟨(s.data.toList ++ l.map fun b => UInt8.ofNat b.toNat).toArray⟩
  | [], s => by
    show some s = _
    simp
  | b :: l, s => by
    show strOf (l.map B8) (s.push (UInt8.ofNat b.toNat)) = _
    rw [strOf_bytes l]
    congr 2
    simp [ByteArray.push]

theorem strOf_bstr (l : List Int) : strOf (l.map B8) .empty = some (bstr l) := by
  rw [strOf_bytes]
  rfl

theorem bstr_size (l : List Int) : (bstr l).size = l.length := by
  show (l.map _).toArray.size = _
  simp

theorem bstr_cells {l : List Int} (h : Bytes l) : ((bstr l).data.toList.map fun b => Value.int .u8 b.toNat) = l.map B8 := by
  show ((l.map fun b => UInt8.ofNat b.toNat).toArray.toList.map fun b => Value.int .u8 b.toNat) = _
  rw [List.toList_toArray, List.map_map]
  refine List.map_congr_left fun b hb => ?_
  obtain ⟨h1, h2⟩ := h b hb
  show Value.int .u8 ((UInt8.ofNat b.toNat).toNat : Int) = .int .u8 b
  congr 1
  rw [UInt8.toNat_ofNat']
  omega

theorem Src.bstr {l : List Int} (h : Bytes l) : Src O 1 (.string (bstr l)) l.length (l.map B8) := by
  intro g _
  show (if (1 : Nat) = 1 then some ((Eng.bstr l).size, (Eng.bstr l).data.toList.map fun b => Value.int .u8 b.toNat) else none) = _
  rw [if_pos rfl, bstr_size, bstr_cells h]

theorem bstr_eq {a b : List Int} (ha : Bytes a) (hb : Bytes b) : bstr a = bstr b ↔ a = b := by
  refine ⟨fun h => ?_, fun h => by rw [h]⟩
  have h2 : a.map B8 = b.map B8 := by rw [← bstr_cells ha, ← bstr_cells hb, h]
  have h3 := congrArg (List.map fun v : Value => match v with | .int _ n => n | _ => 0) h2
  simpa [B8, Function.comp_def] using h3

theorem bstr_beq {a b : List Int} (ha : Bytes a) (hb : Bytes b) : ((bstr a).toList == (bstr b).toList) = decide (a = b) := by
  rw [Bool.eq_iff_iff, beq_iff_eq, decide_eq_true_eq]
  refine ⟨fun h => (bstr_eq ha hb).1 ?_, fun h => by rw [h]⟩
  rw [ByteArray.toList_eq, ByteArray.toList_eq] at h
  exact ByteArray.ext (Array.toList_inj.1 h)

/-! ### Conversions -/
theorem WXL.conv {y : Operand} {k k' : IntKind} {n m : Int} (hw : Met x L ops gd) (hy : evL L y = some (.int k n)) (h1 : P.underlying t = some (.int k)) (h2 : P.underlying u = some (.int k')) (hm : k'.wrap n = m) (h : WXL P x ops mq (i + 1) l ((d, .int k' m) :: L) O K) {tt : TypeId} :
    WXL P x ops mq i ({ dst := some d, op := .convert t u y, type := tt, pos := p, after := af, guard := gd } :: l) L O K :=
  WXL.val (.inl rfl) hw (fun s hs => by
    have hc : convStr P t u = false := by unfold convStr; rw [h1, h2]
    have hc2 : convByt P t u = false := by unfold convByt; rw [h1, h2]
    have e : purely P (convert t u (.int k n)) = some (.int k' m) := by
      simp only [convert, purely_bind, underlying_of h1, underlying_of h2, Option.bind_some]
      rw [← hm]
      rfl
    have ha : ∀ o' : Oper, o'.op = .convert t u y → aop P o' s = (scalarA P o' s.ev).map (·, s.h) := fun o' ho => by unfold aop; rw [ho]; simp only [hc, hc2, Bool.false_eq_true, if_false]
    exact scalar1 (g := convert t u) rfl (fun o' ρ h => by unfold execOp; rw [h]) ha (hs.t.ev hy) rfl e rfl) h

theorem WXL.toStr {y : Operand} {e tt : TypeId} {a : Option Addr} {n c : Nat} {bs : List Int} (hw : Met x L ops gd) (hy : evL L y = some (.slice a n c)) (h1 : P.underlying t = some (.slice e)) (h2 : P.underlying u = some .string) (h3 : P.underlying e = some (.int .u8))
    (hsrc : Src O 1 (.slice a n c) bs.length (bs.map B8)) (h : WXL P x ops mq (i + 1) l ((d, .string (bstr bs)) :: L) O K) :
    WXL P x ops mq i ({ dst := some d, op := .convert t u y, type := tt, pos := p, after := af, guard := gd } :: l) L O K :=
  WXL.val (.inl rfl) hw (fun s hs => by
    have hc : convStr P t u = true := by unfold convStr; simp only [h1, h2, h3]
    unfold aop
    simp only [hc, if_true, hs.t.ev hy]
    unfold strA
    simp only [hsrc _ hs.sat, strOf_bstr, Option.map_some]) h

/-- A string's bytes, in a new row. -/
theorem WXL.toBytes {y : Operand} {e tt : TypeId} {bs : List Int} (hw : Met x L ops gd) (hy : evL L y = some (.string (bstr bs))) (h1 : P.underlying t = some .string) (h2 : P.underlying u = some (.slice e)) (h3 : P.underlying e = some (.int .u8)) (hB : Bytes bs)
    (h : ∀ b, WXL P x ops mq (i + 1) l ((d, .slice (some ⟨b, 0, none⟩) bs.length bs.length) :: L) ((b, ⟨1, false, bs.map B8⟩) :: O) K) :
    WXL P x ops mq i ({ dst := some d, op := .convert t u y, type := tt, pos := p, after := af, guard := gd } :: l) L O K :=
  WXL.fresh (V := fun b => Row b 0 bs.length bs.length) rfl hw (fun s hs => by
    have hc : convStr P t u = false := by unfold convStr; rw [h1, h2]
    have hc2 : convByt P t u = true := by unfold convByt; simp only [h1, h2, h3]
    simp only [aop, hc, hc2, Bool.false_eq_true, if_false, if_true, hs.t.ev hy, bytA, bstr_size, bstr_cells hB]) h

/-! ### Strings -/
theorem WXL.lenS {y : Operand} {ty : TypeId} {bs : ByteArray} (hw : Met x L ops gd) (hy : evL L y = some (.string bs)) (hu : P.underlying ty = some .string) (h : WXL P x ops mq (i + 1) l ((d, .int .i64 bs.size) :: L) O K) :
    WXL P x ops mq i ({ dst := some d, op := .call { callee := .builtin .len, args := #[y], argTypes := #[ty] }, type := t, pos := p, after := af, guard := gd } :: l) L O K :=
  WXL.val (.inl rfl) hw (fun s hs => by simp [aop, lenA, hu, hs.t.ev hy]) h

theorem WXL.eqS {y z : Operand} {a b : List Int} {w : TypeId} (hw : Met x L ops gd) (hy : evL L y = some (.string (bstr a))) (hz : evL L z = some (.string (bstr b))) (ha : Bytes a) (hb : Bytes b) (h : WXL P x ops mq (i + 1) l ((d, .bool (decide (a = b))) :: L) O K) :
    WXL P x ops mq i ({ dst := some d, op := .binOp .eql u y z w, type := t, pos := p, after := af, guard := gd } :: l) L O K :=
  WXL.val (.inl rfl) hw (fun s hs => scalar2 (hs.t.ev hy) (hs.t.ev hz) rfl rfl (by
    rw [← bstr_beq ha hb]
    simp [eqGuard, binOp, Op.stringOp, purely, bind, Sem.bind, pure]) rfl) h

theorem bstr_at {bs : List Int} {k : Nat} (hk : k < bs.length) : (bstr bs)[k]? = some (UInt8.ofNat (nth bs k).toNat) := by
  have h1 : k < (bstr bs).size := by rw [bstr_size]; exact hk
  rw [getElem?_pos _ k h1]
  congr 1
  have h2 : (bs.map fun b => UInt8.ofNat b.toNat).toArray[k]'(by simpa using hk) = UInt8.ofNat (nth bs k).toNat := by rw [List.getElem_toArray, List.getElem_map, nth_get hk]
  exact h2

theorem scalar_idx {y z : Operand} {ty w : TypeId} {a b v : Value} {s : ASt} (hy : s.ev y = a) (hz : s.ev z = b) (ha : plain1 a = true) (hb : plain1 b = true) (hv : purely P (Instr.index ty a b) = some v) (hp : plain1 v = true) :
    aop P { dst := some d, op := .index ty y z, type := w, pos := p, after := af, guard := gd } s = some (v, s.h) := by
  have e : purely P (execOp s.ev { dst := some d, op := .index ty y z, type := w, pos := p, after := af, guard := gd }) = some (.value v) := by
    show purely P (Instr.index ty (s.ev y) (s.ev z) >>= fun v => pure (Next.value v)) = _
    rw [purely_bind, hy, hz, hv]
    rfl
  unfold aop
  simp only
  unfold scalarA
  have hall : (#[y, z].all fun x => plain1 (s.ev x)) = true := by simp [hy, hz, ha, hb]
  simp only [Op.operands, hall, e, hp, if_true, Option.map_some]

theorem WXL.idxStr {y z : Operand} {ty w : TypeId} {bs : List Int} {k : Nat} (hw : Met x L ops gd) (hy : evL L y = some (.string (bstr bs))) (hz : evL L z = some (.int .i64 (k : Int))) (hu : P.underlying ty = some .string) (hB : Bytes bs) (hk : k < bs.length)
    (h : WXL P x ops mq (i + 1) l ((d, B8 (nth bs k)) :: L) O K) : WXL P x ops mq i ({ dst := some d, op := .index ty y z, type := w, pos := p, after := af, guard := gd } :: l) L O K :=
  WXL.val (.inl rfl) hw (fun s hs => scalar_idx (hs.t.ev hy) (hs.t.ev hz) rfl rfl (by
    obtain ⟨h1, h2⟩ := hB _ (nth_mem hk)
    have e : ((UInt8.ofNat (nth bs k).toNat).toNat : Int) = nth bs k := by rw [UInt8.toNat_ofNat']; omega
    have e1 : purely P (asIntOf (.int .i64 (k : Int))) = some (.i64, (k : Int)) := rfl
    unfold Instr.index
    rw [purely_bind, e1]
    simp only [Option.bind_some, purely_bind, underlying_of hu]
    rw [if_pos (by omega), Int.toNat_natCast, bstr_at hk]
    show some (Value.int .u8 _) = _
    rw [e]
    rfl) rfl) h

theorem WXL.nilCheck {y : Operand} {a : Addr} (hw : Met x L ops gd) (hy : evL L y = some (.pointer (some a))) (h : WXL P x ops mq (i + 1) l ((d, .pointer (some a)) :: L) O K) :
    WXL P x ops mq i ({ dst := some d, op := .nilCheck y, type := t, pos := p, after := af, guard := gd } :: l) L O K :=
  WXL.val (.inl rfl) hw (fun s hs => by simp only [aop, hs.t.ev hy]) h

/-- Fewer objects, in any order. -/
theorem Sat.sub {h : AHeap} (hs : Sat h O) (hc : ∀ Q : Nat × Ent → Bool, O'.countP Q ≤ O.countP Q) : Sat h O' := by
  refine ⟨?_, fun p hp => hs.is p ?_, hs.wf⟩
  · rw [List.nodup_iff_count]
    intro b
    have h1 := List.nodup_iff_count.1 hs.nd b
    rw [List.count_eq_countP, List.countP_map] at h1 ⊢
    exact Nat.le_trans (hc _) h1
  · classical
    have h1 : 0 < O'.countP (fun q => decide (q = p)) := List.countP_pos_iff.2 ⟨p, hp, by simp⟩
    obtain ⟨q, h2, h3⟩ := List.countP_pos_iff.1 (Nat.lt_of_lt_of_le h1 (hc _))
    have h4 : q = p := by simpa using h3
    exact h4 ▸ h2

theorem sub_ (hc : ∀ Q : Nat × Ent → Bool, O'.countP Q ≤ O.countP Q := by intro Q; simp only [List.countP_append, List.countP_cons, List.countP_nil]; omega) : ∀ g, Sat g O → Sat g O' := fun _ hs => hs.sub hc

theorem WX.re {P : Program} {x : Cx} {L : Tmps} {O O' : Objs} {c : Code} {Q : Exit → ASt → Prop} (h : WX P x c L O' Q) (hs : ∀ g, Sat g O → Sat g O' := by exact sub_) (hq : x.q = false := by exact rfl) : WX P x c L O Q :=
  fun s hst hk => h s ⟨hst.m, hst.t, hs _ hst.sat, fun q => by rw [hq] at q; cases q⟩ hk

/-- `append` to a row, behind which neither row is written again: both may be read. -/
theorem WXL.appendS {y z : Operand} {ty tz e : TypeId} {a : Option Addr} {n c sz by_ m : Nat} {cs new : List Value} {v zv : Value} {G : Objs} (A : Objs) {R : Objs} (hw : Met x L ops gd) (hy : evL L y = some (.slice a n c)) (hz : evL L z = some v) (hr : isRowT P tz = true)
    (he : elemOf P ty = some e) (hs : szOf P e = some sz) (hby : byOf P e = some by_) (hzv : zeroOf P e = some zv) (hsrc : Src O sz v m new)
    (h : ∀ b b', a = some ⟨b, 0, none⟩ → WXL P x ops mq (i + 1) l ((d, Row b' 0 (n + m) (n + m)) :: L) ((b', ⟨sz, true, cs ++ new⟩) :: (A ++ ((b, ⟨sz, true, cs⟩) :: R))) K)
    (hn : 0 < n := by omega) (hf : (n + m) * by_ ≤ 140737488355328 := by omega) (hm : new.length = m * sz := by exact rfl)
    (hg : Grow sz a n c cs G := by assumption) (hq : x.q = false := by exact rfl) (hcl : mq.Z = [] := by exact rfl) (hmq : mq.q i = false := by exact rfl) (hO : O = A ++ (G ++ R) := by exact rfl) (h3 : zv.cells.size = sz := by exact rfl) (h1 : 0 < sz := by decide) (h2 : 0 < by_ := by decide) :
    WXL P x ops mq i ({ dst := some d, op := .call { callee := .builtin .append, args := #[y, z], argTypes := #[ty, tz] }, type := t, pos := p, after := af, guard := gd } :: l) L O K := by
  have hfit : fitsA by_ (n + m) = true := by unfold fitsA; exact decide_eq_true hf
  rcases hg with ⟨rfl, rfl, rfl, rfl, rfl⟩ | ⟨b, rfl, rfl, hl⟩
  · omega
  intro hdr hqk s hst hzz
  obtain ⟨ho, hd'⟩ := drop_head hdr
  have hj : (b, (⟨sz, false, cs⟩ : Ent)) ∈ O := by rw [hO]; simp
  obtain ⟨f, k, hb⟩ := hst.sat.is _ hj
  have hb' : s.h.o b = .cells sz false f none k cs := hb
  have hbn : b < s.h.n := hst.sat.wf.lt hb'
  obtain ⟨h', hh'⟩ : ∃ h', h' = (s.h.set b (.cells sz false f (some s.h.n) k cs)).new (.cells sz false f none 0 (cs ++ new)) := ⟨_, rfl⟩
  have ho' : ∀ q, h'.o q = if q = s.h.n then .cells sz false f none 0 (cs ++ new) else if q = b then .cells sz false f (some s.h.n) k cs else s.h.o q := fun q => by rw [hh']; rfl
  have ha : aop P { dst := some d, op := .call { callee := .builtin .append, args := #[y, z], argTypes := #[ty, tz] }, type := t, pos := p, after := af, guard := gd } s = some (Row s.h.n 0 (n + m) (n + m), h') := by
    rw [hh']
    simp only [aop, hst.t.ev hy, hst.t.ev hz, hr, if_true]
    unfold appendA
    simp only [he, hs, hby, hzv, Option.map_some, hsrc _ hst.sat, h3, hb', ne_eq, not_true_eq_false, if_false]
    rw [if_pos ⟨trivial, by omega, hfit, h1, h2⟩]
    rfl
  obtain ⟨g2, hg2⟩ : ∃ g2 : AHeap, g2 = { n := h'.n, o := fun q => if q = b then .cells sz true f none (k + 1) cs else if q = s.h.n then .cells sz true f none 0 (cs ++ new) else h'.o q } := ⟨_, rfl⟩
  have hsl : Sealed s.h h' g2 := ⟨b, sz, f, k, cs, cs ++ new, hb', by rw [ho', if_neg (by omega), if_pos rfl], by rw [ho', if_pos rfl], by rw [hg2], fun q => by rw [hg2]⟩
  have hwf := aop_WF ha hst.sat.wf
  have hlt : ∀ p ∈ O, p.1 < s.h.n := fun p hp => hst.sat.lt hp
  have hnd := hst.sat.nd
  rw [hO] at hnd
  have hsat : Sat g2 ((s.h.n, ⟨sz, true, cs ++ new⟩) :: (A ++ ((b, ⟨sz, true, cs⟩) :: R))) := by
    refine ⟨?_, fun p hp => ?_, hwf.1.seal hsl hwf.2 fun b sz ro f st k c hh => hst.sat.wf.lt hh⟩
    · rw [List.map_cons, List.nodup_cons]
      simp only [List.map_append, List.map_cons, List.map_nil, List.cons_append, List.nil_append] at hnd ⊢
      refine ⟨fun hm2 => ?_, hnd⟩
      have : s.h.n ∈ O.map (·.1) := by
        rw [hO]
        simp only [List.map_append, List.map_cons, List.map_nil, List.cons_append, List.nil_append]
        exact hm2
      obtain ⟨p, hp, e1⟩ := List.mem_map.1 this
      have := hlt p hp
      omega
    · have key : ∀ p ∈ O, p.1 ≠ b → Is g2 p.1 p.2 := fun p hp hne => by
        obtain ⟨f1, k1, e1⟩ := hst.sat.is p hp
        have := hlt p hp
        exact ⟨f1, k1, by rw [hg2]; show (if p.1 = b then _ else if p.1 = s.h.n then _ else h'.o p.1) = _; rw [if_neg hne, if_neg (by omega), ho', if_neg (by omega), if_neg hne]; exact e1⟩
      rcases List.mem_cons.1 hp with rfl | hp
      · exact ⟨f, 0, by rw [hg2]; show (if s.h.n = b then _ else if s.h.n = s.h.n then _ else _) = _; rw [if_neg (by omega), if_pos rfl]⟩
      · simp only [List.map_append, List.map_cons, List.map_nil, List.cons_append, List.nil_append] at hnd
        have hnd2 := List.nodup_append.1 hnd
        rcases List.mem_append.1 hp with hp | hp
        · exact key p (by rw [hO]; exact List.mem_append_left _ hp) (fun e1 => hnd2.2.2 p.1 (List.mem_map.2 ⟨p, hp, rfl⟩) b (List.mem_cons_self ..) e1)
        · rcases List.mem_cons.1 hp with rfl | hp
          · exact ⟨f, k + 1, by rw [hg2]; show (if b = b then _ else _) = _; rw [if_pos rfl]⟩
          · exact key p (by rw [hO]; exact List.mem_append_right _ (List.mem_append_right _ hp)) (fun e1 => (List.nodup_cons.1 hnd2.2.1).1 (e1 ▸ List.mem_map.2 ⟨p, hp, rfl⟩))
  obtain ⟨s', g1, g3, g4⟩ := h b s.h.n rfl hd' hqk (s.put (some d) (Row s.h.n 0 (n + m) (n + m)) g2) ⟨by rw [put_m]; exact hst.m, hst.t.put _ _ _, by rw [put_h]; exact hsat, fun q => by rw [hq] at q; cases q⟩ (fun z hm2 => by rw [hcl] at hm2; simp at hm2)
  refine ⟨s', .opseal ho (hw s hst.t _ rfl) ha hsl hmq ?_ (fun z hm2 => by rw [hcl] at hm2; simp at hm2) g1, by rw [g3, put_m], g4⟩
  cases hx : mq.lz i with
  | false => rfl
  | true => exact absurd ((flags_at hqk ho).2 hx) (by simp [isLoadOp])

theorem wrap_u64 {n : Int} (h1 : 0 ≤ n) (h2 : n < 18446744073709551616) : IntKind.wrap .u64 n = n := by
  unfold IntKind.wrap
  have e1 : (2 : Int) ^ IntKind.bits .u64 = 18446744073709551616 := rfl
  have e3 : IntKind.signed .u64 = false := rfl
  simp only [e1, e3, Bool.false_and, Bool.false_eq_true, if_false]
  omega

theorem wrap_u8 {n : Int} (h1 : 0 ≤ n) (h2 : n < 256) : IntKind.wrap .u8 n = n := by
  unfold IntKind.wrap
  have e1 : (2 : Int) ^ IntKind.bits .u8 = 256 := rfl
  have e3 : IntKind.signed .u8 = false := rfl
  simp only [e1, e3, Bool.false_and, Bool.false_eq_true, if_false]
  omega

theorem cv_ {k : IntKind} {n m : Int} (h : k.wrap n = m := by first | exact wrap_i64 (by omega) (by omega) | exact wrap_u64 (by omega) (by omega) | exact wrap_u8 (by omega) (by omega) | exact rfl) : k.wrap n = m := h

end Go.Proofs.Ytahaplbdhgfobaa.Eng

set_option linter.unusedVariables false
set_option linter.unusedSimpArgs false
namespace Go.Proofs.Ytahaplbdhgfobaa.Eng

variable {P : Program} {x : Cx} {L L' : Tmps} {O O' : Objs} {ops : Array Oper} {mq : Mk} {i : Nat} {l : List Oper} {K : ASt → Prop}
  {t u : TypeId} {p : String} {af : Array Edge} {gd : Option (Nat × Bool)} {d : Tmp}

/-! ### 1. Maps -/
/-- A map: its clock; keys, stamps and values. -/
structure MapX where
  ck : Nat
  es : List (Int × Nat × Value)
def mflat : List (Int × Nat × Value) → List Value
  | [] => []
  | (k, n, v) :: m => I k :: I n :: v :: mflat m
def mcells (m : MapX) : List Value := I m.ck :: mflat m.es
def MapX.kv (m : MapX) : List (Int × Value) := m.es.map fun e => (e.1, e.2.2)
def MapX.new : MapX := ⟨0, []⟩

/-! Keys and values alone. -/
variable {α : Type}
def mget (k : Int) : List (Int × α) → Option α
  | [] => none
  | (n, v) :: m => if k = n then some v else mget k m
def mput (k : Int) (u : α) : List (Int × α) → List (Int × α)
  | [] => [(k, u)]
  | (n, v) :: m => if k = n then (k, u) :: m else (n, v) :: mput k u m
def mdel (k : Int) : List (Int × α) → List (Int × α)
  | [] => []
  | (n, v) :: m => if k = n then m else (n, v) :: mdel k m

def xput (k : Int) (u : Value) (ck : Nat) : List (Int × Nat × Value) → Nat × List (Int × Nat × Value)
  | [] => (ck + 1, [(k, ck, u)])
  | (n, b, v) :: m => if k = n then (ck, (k, b, u) :: m) else ((xput k u ck m).1, (n, b, v) :: (xput k u ck m).2)
def xdel (k : Int) : List (Int × Nat × Value) → List (Int × Nat × Value)
  | [] => []
  | (n, b, v) :: m => if k = n then m else (n, b, v) :: xdel k m
def MapX.put (m : MapX) (k : Int) (u : Value) : MapX := ⟨(xput k u m.ck m.es).1, (xput k u m.ck m.es).2⟩
def MapX.del (m : MapX) (k : Int) : MapX := ⟨m.ck, xdel k m.es⟩

theorem MapX.kv_put (m : MapX) (k : Int) (u : Value) : (m.put k u).kv = mput k u m.kv := by
  obtain ⟨ck, es⟩ := m
  unfold MapX.put MapX.kv
  simp only
  induction es with
  | nil => rfl
  | cons e es ih =>
    obtain ⟨n, b, v⟩ := e
    simp only [xput, List.map_cons, mput]
    split
    · rfl
    · simp only [List.map_cons, ih]
theorem MapX.kv_del (m : MapX) (k : Int) : (m.del k).kv = mdel k m.kv := by
  obtain ⟨ck, es⟩ := m
  unfold MapX.del MapX.kv
  simp only
  induction es with
  | nil => rfl
  | cons e es ih =>
    obtain ⟨n, b, v⟩ := e
    simp only [xdel, List.map_cons, mdel]
    split
    · rfl
    · simp only [List.map_cons, ih]

theorem mapGet_cells (k : Int) : ∀ m : List (Int × Nat × Value), mapGet .i64 k (mflat m) = some (mget k (m.map fun e => (e.1, e.2.2)))
  | [] => rfl
  | (n, b, v) :: m => by
    show (if (.i64 : IntKind) = .i64 then if k = n then some (some v) else mapGet .i64 k (mflat m) else none) = some (if k = n then some v else mget k (m.map fun e => (e.1, e.2.2)))
    rw [if_pos rfl, mapGet_cells k m]
    split <;> rfl
theorem mapPut_cells (k : Int) (u : Value) (ck : Nat) : ∀ m, mapPut .i64 k u ck (mflat m) = some (((xput k u ck m).1 : Int), mflat (xput k u ck m).2)
  | [] => rfl
  | (n, b, v) :: m => by
    show (if (.i64 : IntKind) = .i64 then if k = n then some ((ck : Int), I k :: I b :: u :: mflat m) else (mapPut .i64 k u ck (mflat m)).map fun q => (q.1, I n :: I b :: v :: q.2) else none) = _
    rw [if_pos rfl, mapPut_cells k u ck m]
    simp only [xput]
    split <;> rfl
theorem mapDel_cells (k : Int) : ∀ m, mapDel .i64 k (mflat m) = some (mflat (xdel k m))
  | [] => rfl
  | (n, b, v) :: m => by
    show (if (.i64 : IntKind) = .i64 then if k = n then some (mflat m) else (mapDel .i64 k (mflat m)).map (I n :: I b :: v :: ·) else none) = _
    rw [if_pos rfl, mapDel_cells k m]
    simp only [xdel]
    split <;> rfl

abbrev Mp (b : Nat) : Value := .map (some b)

theorem WXL.makeMap {ty : TypeId} (hw : Met x L ops gd) (h : ∀ b, WXL P x ops mq (i + 1) l ((d, Mp b) :: L) ((b, ⟨2, false, mcells .new⟩) :: O) K) :
    WXL P x ops mq i ({ dst := some d, op := .makeMap ty none, type := t, pos := p, after := af, guard := gd } :: l) L O K :=
  WXL.fresh (V := fun b => Mp b) rfl hw (fun s hs => rfl) h

theorem WXL.lookup {y z : Operand} {ty e : TypeId} {b sz : Nat} {ro ok : Bool} {k : Int} {m : MapX} {zv v : Value} (hw : Met x L ops gd) (hy : evL L y = some (Mp b)) (hz : evL L z = some (I k)) (hT : mapT P ty = some e) (hzv : zeroOf P e = some zv)
    (hk : Knows O b ⟨sz, ro, mcells m⟩) (hv : okV ok ((mget k m.kv).getD zv) (mget k m.kv).isSome = v) (h : WXL P x ops mq (i + 1) l ((d, v) :: L) O K) :
    WXL P x ops mq i ({ dst := some d, op := .lookup ty y z ok, type := t, pos := p, after := af, guard := gd } :: l) L O K :=
  WXL.val (.inl rfl) hw (fun s hst => by
    subst hv
    simp only [aop, hst.t.ev hy, hst.t.ev hz, lookupA, hT, hzv, (hk _ hst.sat).rd, mcells, mapGet_cells, MapX.kv]
    cases mget k (m.es.map fun e => (e.1, e.2.2)) <;> rfl) h

/-- An operation that turns a map. -/
theorem WXL.stepM {o : Oper} (hq1 : mq.q i = false) (hw : Met x L ops o.guard)
    (ha : ∀ s, St x L O s → (∀ z ∈ mq.Z, z.1 < s.h.n) → ∃ v h', mop P o s = some (v, h') ∧ (∀ z ∈ mq.Z, h'.o z.1 = s.h.o z.1) ∧ ∃ L' O', St x L' O' (s.put o.dst v h') ∧ WXL P x ops mq (i + 1) l L' O' K) : WXL P x ops mq i (o :: l) L O K := by
  intro hd hq s hs hz
  obtain ⟨ho, hd'⟩ := drop_head hd
  obtain ⟨v, h', h1, h2z, L', O', h3, h⟩ := ha s hs hz
  have hgrow := (mop_WF h1 hs.sat.wf).2
  obtain ⟨s', g1, g2, g3⟩ := h hd' hq _ h3 (fun z hm => by rw [put_h]; exact Nat.lt_of_lt_of_le (hz z hm) hgrow)
  refine ⟨s', .opmap ho (hw s hs.t o rfl) h1 hq1 ?_ h2z g1, by rw [g2, put_m], g3⟩
  cases hx : mq.lz i with
  | false => rfl
  | true =>
    have := (flags_at hq ho).2 hx
    exfalso
    have e := mop_impure h1
    unfold mop at h1
    split at h1
    · rename_i hop; rw [hop] at this; cases this
    · rename_i hop; rw [hop] at this; cases this
    · cases h1

theorem WXL.mapUpdate {y z w : Operand} {ty e : TypeId} {j b : Nat} {k : Int} {m : MapX} {v : Value} (hw : Met x L ops gd) (hy : evL L y = some (Mp b)) (hz : evL L z = some (I k)) (hv : evL L w = some v) (hT : mapT P ty = some e)
    (h : WXL P x ops mq (i + 1) l L (O.set j (b, ⟨2, false, mcells (m.put k v)⟩)) K) (hj : O[j]? = some (b, ⟨2, false, mcells m⟩)) (hq : x.q = false := by exact rfl)
    (hcl : Clear O j mq.Z := by repeat (first | exact Clear.nil | refine Clear.cons 0 rfl rfl ?_ | refine Clear.cons 1 rfl rfl ?_ | refine Clear.cons 2 rfl rfl ?_ | refine Clear.cons 3 rfl rfl ?_ | refine Clear.cons 4 rfl rfl ?_))
    (hq1 : mq.q i = false := by first | exact rfl | exact (show needs _ _ = false from by decide +kernel)) :
    WXL P x ops mq i ({ dst := none, op := .mapUpdate ty y z w, type := t, pos := p, after := af, guard := gd } :: l) L O K :=
  WXL.stepM hq1 hw fun s hst hzz => by
    have hne := hcl.ne hst.sat hj
    obtain ⟨f, n, hb⟩ := hst.sat.at hj
    refine ⟨undef, s.h.set b (.cells 2 false f none (n + 1) (mcells (m.put k v))), ?_, fun z hm => (by simp only [AHeap.set]; rw [if_neg (hne z hm)]), L, _, ⟨hst.m, hst.t, hst.sat.set hj hb, fun hx => (by rw [hq] at hx; cases hx)⟩, h⟩
    have hb' : s.h.o b = .cells 2 false f none n (mcells m) := hb
    simp only [mop, hst.t.ev hy, hst.t.ev hz, hst.t.ev hv, putA, hT, hb', mcells, mapPut_cells, Option.map_some]
    rfl

theorem WXL.delete {y z : Operand} {ty tz e : TypeId} {j b : Nat} {k : Int} {m : MapX} (hw : Met x L ops gd) (hy : evL L y = some (Mp b)) (hz : evL L z = some (I k)) (hT : mapT P ty = some e)
    (h : WXL P x ops mq (i + 1) l L (O.set j (b, ⟨2, false, mcells (m.del k)⟩)) K) (hj : O[j]? = some (b, ⟨2, false, mcells m⟩)) (hq : x.q = false := by exact rfl)
    (hcl : Clear O j mq.Z := by repeat (first | exact Clear.nil | refine Clear.cons 0 rfl rfl ?_ | refine Clear.cons 1 rfl rfl ?_ | refine Clear.cons 2 rfl rfl ?_ | refine Clear.cons 3 rfl rfl ?_ | refine Clear.cons 4 rfl rfl ?_))
    (hq1 : mq.q i = false := by first | exact rfl | exact (show needs _ _ = false from by decide +kernel)) :
    WXL P x ops mq i ({ dst := none, op := .call { callee := .builtin .delete, args := #[y, z], argTypes := #[ty, tz] }, type := t, pos := p, after := af, guard := gd } :: l) L O K :=
  WXL.stepM hq1 hw fun s hst hzz => by
    have hne := hcl.ne hst.sat hj
    obtain ⟨f, n, hb⟩ := hst.sat.at hj
    refine ⟨.tuple #[], s.h.set b (.cells 2 false f none (n + 1) (mcells (m.del k))), ?_, fun z hm => (by simp only [AHeap.set]; rw [if_neg (hne z hm)]), L, _, ⟨hst.m, hst.t, hst.sat.set hj hb, fun hx => (by rw [hq] at hx; cases hx)⟩, h⟩
    have hb' : s.h.o b = .cells 2 false f none n (mcells m) := hb
    simp only [mop, hst.t.ev hy, hst.t.ev hz, delA, hT, hb', mcells, mapDel_cells, Option.map_some]
    rfl

/-! ### 2. Fields of values -/
theorem WXL.fieldV {y : Operand} {ty : TypeId} {f : Nat} {fs : Array Field} {g : Field} {cs : Array Value} {v : Value} (hw : Met x L ops gd) (hy : evL L y = some (.agg cs)) (hu : P.underlying ty = some (.struct fs)) (hg : fs[f]? = some g) (hv : partA P g.type cs g.offset = some v)
    (h : WXL P x ops mq (i + 1) l ((d, v) :: L) O K) : WXL P x ops mq i ({ dst := some d, op := .field ty y f, type := t, pos := p, after := af, guard := gd } :: l) L O K :=
  WXL.val (.inl rfl) hw (fun s hst => by
    simp only [aop, hst.t.ev hy, fieldOfA, hu, hg, hv]
    rfl) h

theorem part1 {ft : TypeId} {cs : Array Value} {off : Nat} {v : Value} (ht : isAggT P ft = some false) (hv : cs[off]? = some v) : partA P ft cs off = some v := by
  unfold partA
  simp only [ht]
  exact hv

/-! ### 3. Functions shown by hand -/
theorem Spec.direct {q : Bool} {f : FuncId} {args : Array Value} {Post : Value → Objs → Prop} (h : ∀ g, Sat g O → ∃ v h' O', Direct P f args g v h' ∧ Post v O' ∧ Sat h' O' ∧ (q = true → Old g h')) : Spec P q f args O Post := fun g hg => by
  obtain ⟨v, h', O', a, b, c, e⟩ := h g hg
  exact ⟨v, h', O', .direct a, b, c, e⟩

/-! ### 4. Deferred calls -/
def WD (P : Program) (ρ : Rho) (c : Code) (s : ASt) (K : ASt → FuncId → Array Value → Prop) : Prop := codeOk s.m c = true → ∃ s' g lb, Big P drv ρ (.codeD c s s' g lb) ∧ s'.m = s.m ∧ K s' g lb
def WXD (P : Program) (x : Cx) (c : Code) (L : Tmps) (O : Objs) (K : ASt → FuncId → Array Value → Prop) : Prop := ∀ s, St x L O s → WD P x.ρ c s K
def thenD (P : Program) (ρ : Rho) (b : Code) (K : ASt → FuncId → Array Value → Prop) : Exit → ASt → Prop
  | .normal, s => WD P ρ b s K
  | _, _ => False
def endD (K : ASt → FuncId → Array Value → Prop) (g : FuncId) (lb : Array Value) : Exit → ASt → Prop
  | .normal, s | .ret, s => K s g lb
  | _, _ => False

theorem Fin.thenD {b : Code} {K : ASt → FuncId → Array Value → Prop} (h : WXD P x b L O K) : Fin x L O .normal (thenD P x.ρ b K) := h

theorem WXD.seq {a b : Code} {K : ASt → FuncId → Array Value → Prop} (h : WX P x a L O (thenD P x.ρ b K)) : WXD P x (.seq a b) L O K := by
  intro s hs hk
  simp only [codeOk, Bool.and_eq_true] at hk
  obtain ⟨e, s', h1, h2, h3⟩ := h s hs hk.1
  cases e with
  | normal =>
    obtain ⟨s2, g, lb, g1, g2, g3⟩ := (show WD P x.ρ b s' K from h3) (by rw [h2]; exact hk.2)
    exact ⟨s2, g, lb, .dseq h1 g1, g2.trans h2, g3⟩
  | _ => exact h3.elim

theorem WXD.here {id : Nat} {f : FuncId} {cs : Array Operand} {us : List Value} {d : Tmp} {t1 t2 : TypeId} {p1 p2 : String} {af1 af2 : Array Edge} {ats : Array TypeId} {rest : Code} {K : ASt → FuncId → Array Value → Prop}
    (hc : evs L cs.toList = some us) (h : WX P x rest ((d, .func (.func f) #[] us.toArray) :: L) O (endD K f us.toArray)) :
    WXD P x (.seq (.region id #[{ dst := some d, op := .makeFunc (.func f) #[] cs, type := t1, pos := p1, after := af1, guard := none }, { dst := none, op := .defer { callee := .value (.tmp d), args := #[], argTypes := ats }, type := t2, pos := p2, after := af2, guard := none }] false) rest) L O K := by
  intro s hs hk
  simp only [codeOk, Bool.and_eq_true] at hk
  have e2 : cs.map s.ev = us.toArray := by apply Array.toList_inj.1; rw [Array.toList_map, hs.t.evs hc]
  obtain ⟨e, s', h1, h2, h3⟩ := h (s.put (some d) (.func (.func f) #[] us.toArray) s.h) ⟨hs.m, hs.t.put _ _ _, hs.sat, hs.old⟩ hk.2
  have e3 : ∀ o : Oper, o.op = .makeFunc (.func f) #[] cs → aop P o s = some (.func (.func f) #[] us.toArray, s.h) := fun o ho => by
    unfold aop
    rw [ho]
    simp only [e2, List.map_toArray, List.map_nil]
  have he : (e = .normal ∨ e = .ret) ∧ K s' f us.toArray := by
    cases e with
    | normal => exact ⟨.inl rfl, h3⟩
    | ret => exact ⟨.inr rfl, h3⟩
    | _ => exact h3.elim
  refine ⟨s', f, us.toArray, .dhere (n := 1) hk.1 rfl rfl rfl rfl rfl rfl (.op (v := .func (.func f) #[] us.toArray) (h' := s.h) rfl (wanted_none rfl) ?_ (fun q => (by cases q)) rfl (fun _ q => (by simp at q)) .nil) ?_ h1 he.1, h2, he.2⟩
  · exact e3 _ rfl
  · show (if d = d then _ else _) = _
    rw [if_pos rfl]

/-- What a deferred function's body comes to. -/
def SpecLate (P : Program) (g : FuncId) (lb : Array Value) (O : Objs) (Post : Objs → Prop) : Prop :=
  ∀ h, Sat h O → ∃ gn gc e4 s4 vs2 O', P.funcs[g]? = some gn ∧ gn.body = some gc ∧ gn.name ≠ "runtime.NumGoroutine" ∧ Big P drv .late (.code gc (enterA gn lb h) e4 s4) ∧ (e4 = .normal ∨ e4 = .ret) ∧ resultsA P gn s4 = some vs2 ∧ Post O' ∧ Sat s4.h O'

theorem SpecLate.enter {f : FuncId} {fn : Func} {c : Code} {args : List Value} {m : Nat} {Post : Objs → Prop} (hf : P.funcs[f]? = some fn) (hb : fn.body = some c) (hm : max fn.ntmps args.length = m) (hok : codeOk m c = true) (hn : (fn.name != "runtime.NumGoroutine") = true)
    (h : ∀ h0, WX P ⟨m, false, h0, .late⟩ c (argsL args 0) O (bodyW P fn ⟨m, false, h0, .late⟩ fun _ O' => Post O')) : SpecLate P f args.toArray O Post := by
  intro g hg
  obtain ⟨e, s', h1, h2, h3⟩ := h g (enterA fn args.toArray g) ⟨by simpa [enterA] using hm, has_args args 0 fun j v hj => by simp [enterA, Array.getD_eq_getD_getElem?, hj], hg, fun _ => Old.refl g⟩ (by rw [show (enterA fn args.toArray g).m = m from by simpa [enterA] using hm]; exact hok)
  have key : (e = .normal ∨ e = .ret) ∧ ∃ vs O', resultsA P fn s' = some vs ∧ Post O' ∧ Sat s'.h O' ∧ (false = true → Old g s'.h) := by
    cases e with
    | normal => exact ⟨.inl rfl, h3⟩
    | ret => exact ⟨.inr rfl, h3⟩
    | _ => exact h3.elim
  obtain ⟨he, vs, O', k1, k2, k3, k4⟩ := key
  exact ⟨fn, c, e, s', vs, O', hf, hb, by simpa using hn, h1, he, k1, k2, k3⟩

def lateW (P : Program) (fn : Func) (Post : Value → Objs → Prop) (s : ASt) (g : FuncId) (lb : Array Value) : Prop :=
  ∃ gn gc e4 s4 vs2 vs O', P.funcs[g]? = some gn ∧ gn.body = some gc ∧ gn.name ≠ "runtime.NumGoroutine" ∧ Big P drv .late (.code gc (enterA gn lb s.h) e4 s4) ∧ (e4 = .normal ∨ e4 = .ret) ∧ resultsA P gn s4 = some vs2 ∧
    resultsA P fn { s with h := s4.h } = some vs ∧ Post (tupleA vs) O' ∧ Sat s4.h O'

theorem Spec.enterD {f : FuncId} {fn : Func} {c : Code} {args : List Value} {m : Nat} {Post : Value → Objs → Prop} (hf : P.funcs[f]? = some fn) (hb : fn.body = some c) (hm : max fn.ntmps args.length = m) (hok : codeOk m c = true)
    (h : ∀ h0, WXD P ⟨m, false, h0, .none⟩ c (argsL args 0) O (lateW P fn Post)) : Spec P false f args.toArray O Post := by
  intro g hg
  obtain ⟨s', g1, lb, h1, h2, gn, gc, e4, s4, vs2, vs, O', k1, k2, k3, k4, k5, k6, k7, k8, k9⟩ := h g (enterA fn args.toArray g) ⟨by simpa [enterA] using hm, has_args args 0 fun j v hj => by simp [enterA, Array.getD_eq_getD_getElem?, hj], hg, fun q => (by cases q)⟩ (by rw [show (enterA fn args.toArray g).m = m from by simpa [enterA] using hm]; exact hok)
  exact ⟨tupleA vs, s4.h, O', .calld hf hb h1 k1 k2 k3 k4 k5 k6 k7, k8, k9, fun q => by cases q⟩

/-- The end of what stands behind a `defer`: the deferred function's contract, and what the results then are. -/
theorem Fin.late {fn : Func} {Post : Value → Objs → Prop} {rs : List ResultVar} {e : Exit} {g : FuncId} {lb : Array Value} {O1 : Objs} {Post1 : Objs → Prop} (he : e = .normal ∨ e = .ret) (hr : fn.results.toList = rs) (hO : ∀ h, Sat h O → Sat h O1) (hs : SpecLate P g lb O1 Post1)
    (h : ∀ O2, Post1 O2 → ∃ vs, ResOk P L O2 rs vs ∧ Post (tupleA vs) O2) : Fin x L O e (endD (lateW P fn Post) g lb) := by
  intro s hst
  obtain ⟨gn, gc, e4, s4, vs2, O', k1, k2, k3, k4, k5, k6, k7, k8⟩ := hs s.h (hO _ hst.sat)
  obtain ⟨vs, q1, q2⟩ := h O' k7
  have hres : resultsA P fn { s with h := s4.h } = some vs := by
    unfold resultsA
    rw [hr]
    exact ResOk.ok (x := ⟨s.m, false, s4.h, .none⟩) (s := { s with h := s4.h }) ⟨rfl, hst.t, k8, fun q => by cases q⟩ q1
  have : lateW P fn Post s g lb := ⟨gn, gc, e4, s4, vs2, vs, O', k1, k2, k3, k4, k5, k6, hres, q2, k8⟩
  rcases he with rfl | rfl <;> exact this

end Go.Proofs.Ytahaplbdhgfobaa.Eng

set_option linter.unusedVariables false
set_option linter.unusedSimpArgs false
namespace Go.Proofs.Ytahaplbdhgfobaa.Eng

variable {P : Program} {x : Cx} {L L' : Tmps} {O O' : Objs} {base : Nat} {ι ι1 ι2 : Lay} {h h' h1 h2 : AHeap} {w w1 w2 : World}

/-! ### 1. From the symbolic run to the model -/
theorem WX.wp (hm : P.follows .mixedOrders = true) {c : Code} {Q : Exit → ASt → Prop} (hwx : WX P x c L O Q) (hx : x.ρ = .late) (hk : codeOk x.m c = true) {s : ASt} {a : Act} {Q' : Exit → Act → World → Prop} (hst : St x L O s) (hs : SRel base ι s a w)
    (hq : ∀ e s' ι' a' w', Q e s' → SRel base ι' s' a' w' → More base ι ι' s.h s'.h w → Keep0 ι s.h s'.h w w' → a'.defers = a.defers → Stay s.h s'.h → Q' e a' w') : c.wpIn (FR none) 0 P Q' a w := by
  obtain ⟨e, s', b1, _, b2⟩ := hwx s hst (by rw [hst.m]; exact hk)
  rw [hx] at b1
  have hc : SoundC P .late c s e s' := sound (fun _ _ _ h => draw_ok hm h) b1
  refine hc.2.2.1 none base ι a w Q' (fun _ => rfl) hs CtxOk.none.late fun ι' a' w' ds r1 r2 r3 r4 r5 => hq e s' ι' a' w' b2 r1 r2 r3 ?_ (stayJ b1)
  rw [r4, r5.2.2 rfl]; rfl

theorem WXL.wp (hm : P.follows .mixedOrders = true) {ops : Array Oper} {i : Nat} {l : List Oper} {K : ASt → Prop} (hwx : WXL P x ops noMk i l L O K) (hx : x.ρ = .late) (hd : Dr ops i l) (more : List Nat) (hk : regOk ops x.m = true) {s : ASt} {a : Act} {Q : Exit → Act → World → Prop} (hst : St x L O s) (hs : SRel base ι s a w)
    (hq : ∀ s' ι' a' w', K s' → SRel base ι' s' a' w' → More base ι ι' s.h s'.h w → Keep0 ι s.h s'.h w w' → a'.defers = a.defers → s'.m = x.m → Stay s.h s'.h → wpOpsIn (FR none) 0 P ops Q more a' w') : wpOpsIn (FR none) 0 P ops Q (List.range' i l.length ++ more) a w := by
  obtain ⟨s', b1, b0, b2⟩ := hwx hd (flagsFalse ops) s hst (fun z hz => by simp [noMk] at hz)
  have e1 : noMk.rho x.ρ = .late := by rw [hx]; rfl
  rw [e1] at b1
  have hc : OpsTr P .late ops noMk.q noMk.lz noMk.Z (List.range' i l.length) s s' := sound (fun _ _ _ h => draw_ok hm h) b1
  exact (text_ok' hc (by rw [hst.m]; exact hk) more).2 none base ι a w Q hs CtxOk.none.late fun ι' a' w' r1 r2 r3 r4 => hq s' ι' a' w' b2 r1 r2 r3 r4 (b0.trans hst.m) (stayJ b1)

theorem HRel.drew (hr : HRel base ι h w) : HRel base ι h w.drew := ⟨hr.lt, hr.blk, hr.szs, hr.val, hr.room, hr.apart, hr.link, hr.wf, hr.fam, hr.uniq, hr.out, hr.maps⟩

/-- Worlds that agree where the old one was. -/
theorem HRel.pre (hr : HRel base ι h w) (hs : w.heap.size ≤ w1.heap.size) (hb : ∀ B, B < w.heap.size → w1.heap[B]? = w.heap[B]?) : HRel base ι h w1 := by
  refine ⟨hr.lt, fun b e he => Nat.lt_of_lt_of_le (hr.blk b e he) hs, hr.szs, fun b e c i v he hmp hc hi => ?_, fun b e sz f st k c i he ho hi => ?_, hr.apart, hr.link, hr.wf, hr.fam, hr.uniq, hr.out, fun b e sz ro f st k c he hmp ho => ?_⟩
  · obtain ⟨v', q1, q2⟩ := hr.val b e c i v he hmp hc hi
    exact ⟨v', by rw [(cell_eq (hb _ (hr.blk b e he))).1]; exact q1, q2⟩
  · obtain ⟨⟨v, q1⟩, q2⟩ := hr.room b e sz f st k c i he ho hi
    have := cell_eq (off := e.off + i) (hb _ (hr.blk b e he))
    exact ⟨⟨v, by rw [this.1]; exact q1⟩, by rw [this.2]; exact q2⟩
  · obtain ⟨q1, q2⟩ := hr.maps b e _ _ _ _ _ _ he hmp ho
    exact ⟨q1, q2.world (hb _ (hr.blk b e he))⟩

/-! ### 2. A map's entries -/
theorem pair_mem {c : List (Int × Nat × Value)} : ∀ {es : List MapEntry}, PairRel ι (mflat c) es → ∀ e ∈ es, ∃ k v, (k, e.born, v) ∈ c ∧ e.key = I k ∧ VRel ι v e.val := by
  induction c with
  | nil => intro es hp e he; cases hp; simp at he
  | cons p c ih =>
    obtain ⟨k, n, v⟩ := p
    intro es hp e he
    unfold mflat at hp
    generalize hX : I k :: I n :: v :: mflat c = X at hp
    cases hp with
    | nil => cases hX
    | cons h1 h2 h3 h4 =>
      rename_i c2 e2 es2
      injection hX with q1 q2
      injection q2 with q3 q4
      injection q4 with q5 q6
      subst q1 q5 q6
      injection q3 with _ q3
      rcases List.mem_cons.1 he with rfl | he
      · exact ⟨k, v, by rw [show n = e.born by omega]; exact List.mem_cons_self .., h1, h3⟩
      · obtain ⟨k2, v2, a1, a2, a3⟩ := ih h4 e he
        exact ⟨k2, v2, List.mem_cons_of_mem _ a1, a2, a3⟩

theorem mem_pair {c : List (Int × Nat × Value)} : ∀ {es : List MapEntry}, PairRel ι (mflat c) es → ∀ k n v, (k, n, v) ∈ c → ∃ e ∈ es, e.born = n := by
  induction c with
  | nil => intro es hp k n v hc; simp at hc
  | cons p c ih =>
    obtain ⟨k, n, v⟩ := p
    intro es hp k2 n2 v2 hc
    unfold mflat at hp
    generalize hX : I k :: I n :: v :: mflat c = X at hp
    cases hp with
    | nil => cases hX
    | cons h1 h2 h3 h4 =>
      rename_i c3 e2 es2
      injection hX with q1 q2
      injection q2 with q3 q4
      injection q4 with q5 q6
      subst q1 q5 q6
      injection q3 with _ q3
      rcases List.mem_cons.1 hc with hc | hc
      · injection hc with _ hc; injection hc with hc _
        exact ⟨e2, List.mem_cons_self .., by omega⟩
      · obtain ⟨e, a1, a2⟩ := ih h4 k2 n2 v2 hc
        exact ⟨e, List.mem_cons_of_mem _ a1, a2⟩

/-! ### 3. The loop -/
/-- An iterator over a map stands ready. -/
structure Iter (base : Nat) (ι : Lay) (bm br : Nat) (mx : MapX) (seen : List Nat) (h : AHeap) (w : World) : Prop where
  ex : ∃ em er, ι bm = some em ∧ em.mp = true ∧ ι br = some er ∧ er.off = 0 ∧ er.mp = false ∧ Off ι h er.block ∧ w.heap[er.block]? = some (.mapIter (some em.block) mx.ck seen.reverse.toArray mx.ck)
  ob : ∃ sz ro f st k, h.o bm = .cells sz ro f st k (mcells mx)

theorem Iter.keep {bm br : Nat} {mx mx' : MapX} {seen : List Nat} (hi : Iter base ι bm br mx seen h w) (hr : HRel base ι h w) (hm : More base ι ι1 h h1 w) (hk : Keep0 ι h h1 w w1) (hck : mx'.ck = mx.ck) (hob : ∃ sz ro f st k, h1.o bm = .cells sz ro f st k (mcells mx')) : Iter base ι1 bm br mx' seen h1 w1 := by
  obtain ⟨em, er, q1, q2, q3, q4, q5, q6, q7⟩ := hi.ex
  exact ⟨⟨em, er, More.lay hr hm _ _ q1, q2, More.lay hr hm _ _ q3, q4, q5, q6.more hr hm (hr.blk _ _ q3), by rw [q6.keep hr hm hk (hr.blk _ _ q3), hck]; exact q7⟩, hob⟩

/-- The loop ends, or an entry comes that has not come yet. -/
theorem iter_next {bm br : Nat} {mx : MapX} {seen : List Nat} (hi : Iter base ι bm br mx seen h w) (hr : HRel base ι h w) {ty : TypeId} {er : Ext} (her : ι br = some er) :
    ((∀ e ∈ mx.es, e.2.1 ∈ seen) ∧ (Instr.next (.pointer (some ⟨er.block, 0, none⟩)) false ty).run P w = .ok (.tuple #[.bool false]) w) ∨
    ∃ k n v v' w1, (k, n, v) ∈ mx.es ∧ n ∉ seen ∧ VRel ι v v' ∧ (Instr.next (.pointer (some ⟨er.block, 0, none⟩)) false ty).run P w = .ok (.tuple #[.bool true, I k, v']) w1 ∧ HRel base ι h w1 ∧ w1.heap.size = w.heap.size ∧ (∀ ι0 h0 w0, Keep0 ι0 h0 h w0 w → w0.heap.size ≤ er.block → Keep0 ι0 h0 h w0 w1) ∧ Iter base ι bm br mx (n :: seen) h w1 ∧
      (Instr.entry (.pointer (some ⟨er.block, 0, none⟩))).run P w1 = .ok (.tuple #[I k, v']) w1 := by
  obtain ⟨em, er', q1, q2, q3, q4, q5, q6, q7⟩ := hi.ex
  obtain rfl := Option.some.inj (her.symm.trans q3)
  obtain ⟨sz, ro, f, st, kk, hob⟩ := hi.ob
  obtain ⟨hone, es, clock, hes, c, hc0, hp, hp2, hp3⟩ := hr.maps bm em _ _ _ _ _ _ q1 q2 hob
  unfold mcells at hc0
  injection hc0 with e1 e2
  injection e1 with _ e1
  have e1 : clock = mx.ck := by omega
  subst e1 e2
  have hne : er.block ≠ em.block := fun q => by
    have := q6 bm em q1 q.symm
    rw [hob] at this
    cases this
  rcases run_next_at (P := P) w ty er.block em.block mx.ck mx.ck seen.reverse.toArray es mx.ck q7 hes hp2 (Nat.le_refl _) with ⟨a1, a2⟩ | ⟨e, he, w1, a1, a2⟩
  · refine .inl ⟨fun e he => ?_, a2⟩
    obtain ⟨k, n, v⟩ := e
    obtain ⟨e, b1, b2⟩ := mem_pair hp k n v he
    have : seen.reverse.toArray.contains e.born = true := by
      cases hc : seen.reverse.toArray.contains e.born with
      | true => rfl
      | false =>
        exfalso
        have hm : e ∈ leftOf es seen.reverse.toArray := Array.mem_filter.2 ⟨Array.mem_toList_iff.1 b1, by rw [hc]; rfl⟩
        have := Array.size_pos_of_mem hm
        omega
    rw [b2] at this
    simpa using this
  · right
    have hm := Array.mem_filter.1 (Array.mem_toList_iff.1 he)
    obtain ⟨k, v, b1, b2, b3⟩ := pair_mem hp e (Array.mem_toList_iff.2 hm.1)
    have hns : e.born ∉ seen := by
      have := hm.2
      simpa using this
    have hlt : er.block < w.heap.size := hr.blk _ _ her
    have hset : ∀ w2 : World, ChangeMaps.setBlock w2 er.block (.mapIter (some em.block) mx.ck (seen.reverse.toArray.push e.born) mx.ck) = w2.putObj er.block (.mapIter (some em.block) mx.ck (seen.reverse.toArray.push e.born) mx.ck) := fun w2 => rfl
    have hpush : seen.reverse.toArray.push e.born = (e.born :: seen).reverse.toArray := by simp
    rw [b2, hset] at a2
    have hw1 : w1.heap = w.heap ∧ w1.os = w.os ∧ w1.tape = w.tape ∧ w1.output = w.output ∧ HRel base ι h w1 := by
      rcases a1 with rfl | rfl
      · exact ⟨rfl, rfl, rfl, rfl, hr⟩
      · exact ⟨rfl, rfl, rfl, rfl, hr.drew⟩
    obtain ⟨g1, g2, g3, g4, g5⟩ := hw1
    have hlt1 : er.block < w1.heap.size := by rw [g1]; exact hlt
    generalize hobj : Obj.mapIter (some em.block) mx.ck (seen.reverse.toArray.push e.born) mx.ck = o at a2
    have hoth : ∀ B, B ≠ er.block → (w1.putObj er.block o).heap[B]? = w.heap[B]? := fun B hB => by rw [World.putObj_heap_other hB, g1]
    have hd : ∀ ι0 h0 w0, Keep0 ι0 h0 h w0 w → Keep0 ι0 h0 h w0 w1 := fun ι0 h0 w0 hk => by
      rcases a1 with rfl | rfl
      · exact hk
      · exact ⟨hk.os, hk.tape, hk.output, hk.size, hk.block, hk.cell, hk.there⟩
    refine ⟨k, e.born, v, e.val, _, b1, hns, b3, a2, g5.put q6 o, by rw [World.putObj_size, g1], fun ι0 h0 w0 hk hB => (hd ι0 h0 w0 hk).put hB o, ⟨⟨em, er, q1, q2, her, q4, q5, q6, ?_⟩, ⟨_, _, _, _, _, hob⟩⟩, ?_⟩
    · rw [World.putObj_heap_same hlt1, ← hobj, hpush]
    · refine (run_entry_at (P := P) (w1.putObj er.block o) er.block em.block mx.ck seen.reverse.toArray es mx.ck e ?_ ?_ (Array.mem_toList_iff.2 hm.1) ?_).trans (by rw [b2])
      · rw [World.putObj_heap_same hlt1, ← hobj]
      · rw [hoth _ (Ne.symm hne)]; exact hes
      · have p2 : (es.toList.map (·.born)).Pairwise (· < ·) := List.pairwise_map.2 hp3
        exact p2.imp fun hlt => Nat.ne_of_lt hlt

theorem opsIn_value {ops : Array Oper} {i : Nat} {rest : List Nat} {o : Oper} {a : Act} {v : Value} {Q : Exit → Act → World → Prop} (ho : ops[i]? = some o) (hg : o.guard = none) (hnd : ∀ c, o.op ≠ .defer c) (hrun : (execOp a.eval o).run P w = .ok (.value v) w1)
    (h : wpOpsIn (FR none) 0 P ops Q rest (a.put o.dst v) w1) : wpOpsIn (FR none) 0 P ops Q (i :: rest) a w := by
  rw [wpOpsIn_cons]
  unfold wpOpIn
  simp only [ho]
  have hwant : Region.wanted o (yielded ops a.tmps) = true := by unfold Region.wanted; rw [hg]
  rw [hwant, if_pos rfl]
  refine ⟨fun _ _ => trivial, ?_⟩
  rw [Oper.semAt_eq _ _ _ hnd, hrun]
  exact h

theorem exec_next {o : Oper} {ρ : Operand → Value} {y : Operand} {b : Bool} {v v0 : Value} (ho : o.op = .next y b) (hy : ρ y = v0) (h : (Instr.next v0 b o.type).run P w = .ok v w1) : (execOp ρ o).run P w = .ok (.value v) w1 := by
  subst hy
  unfold execOp
  rw [ho]
  simp only [Sem.run_bind, h, Result.andThen_ok, Sem.run_pure]
theorem exec_entry {o : Oper} {ρ : Operand → Value} {y : Operand} {v v0 : Value} (ho : o.op = .entry y) (hy : ρ y = v0) (h : (Instr.entry v0).run P w = .ok v w1) : (execOp ρ o).run P w = .ok (.value v) w1 := by
  subst hy
  unfold execOp
  rw [ho]
  simp only [Sem.run_bind, h, Result.andThen_ok, Sem.run_pure]
theorem exec_extract {o : Oper} {ρ : Operand → Value} {y : Operand} {i : Nat} {v : Value} {vs : Array Value} (ho : o.op = .extract y i) (hy : ρ y = .tuple vs) (h : vs[i]? = some v) : (execOp ρ o).run P w = .ok (.value v) w := by
  unfold execOp
  rw [ho]
  simp only [hy, Instr.extract, h, Sem.run_bind, Sem.run_pure, Result.andThen_ok]

def stamps (mx : MapX) : List Nat := mx.es.map (·.2.1)
def unseen (ns seen : List Nat) : Nat := (ns.filter fun n => !seen.contains n).length

theorem unseen_lt {seen : List Nat} {n : Nat} (hn : n ∉ seen) : ∀ {ns : List Nat}, n ∈ ns → unseen ns (n :: seen) < unseen ns seen
  | m :: ns, hm => by
    have hle : ∀ l : List Nat, unseen l (n :: seen) ≤ unseen l seen := fun l => by
      unfold unseen
      induction l with
      | nil => exact Nat.le_refl _
      | cons a l ih =>
        simp only [List.contains_cons] at ih
        simp only [List.filter_cons, List.contains_cons]
        by_cases ha : seen.contains a = true
        · simp only [ha, Bool.or_true, Bool.not_true, Bool.false_eq_true, if_false]; exact ih
        · have ha' : seen.contains a = false := by simpa using ha
          simp only [ha', Bool.or_false, Bool.not_false, if_true, List.length_cons]
          split
          · rw [List.length_cons]; omega
          · omega
    have step : ∀ a, unseen (a :: ns) seen = (if seen.contains a then 0 else 1) + unseen ns seen := fun a => by
      unfold unseen
      rw [List.filter_cons]
      cases seen.contains a <;> simp <;> omega
    have step2 : ∀ a, unseen (a :: ns) (n :: seen) = (if (n :: seen).contains a then 0 else 1) + unseen ns (n :: seen) := fun a => by
      unfold unseen
      rw [List.filter_cons]
      cases (n :: seen).contains a <;> simp <;> omega
    rw [step, step2]
    rcases List.mem_cons.1 hm with rfl | hm
    · have h1 : seen.contains n = false := by simpa using hn
      have h2 : (n :: seen).contains n = true := by simp
      rw [h1, h2]
      have := hle ns
      simp
      omega
    · have := unseen_lt hn hm
      have h3 : (if (n :: seen).contains m then 0 else 1) ≤ (if seen.contains m then 0 else 1) := by
        rw [List.contains_cons]
        cases seen.contains m <;> cases m == n <;> simp
      omega

/-- A loop over a map. -/
theorem range_loop (hm : P.follows .mixedOrders = true) {β : Type} (LI : β → Tmps) (OI : β → Objs) (Inv : MapX → List Nat → β → Prop) {bm br : Nat} {b1 b2 i3 i4 : Nat} {it tn tk te : Tmp} {t1 t2 t3 : TypeId} {p1 p2 p3 : String} {af1 af2 af3 : Array Edge} {eops : Array Oper} {el : List Oper} {c2 : Code}
    (hx : x.ρ = .late) (hel : eops.toList = { dst := some te, op := .entry (.tmp it), type := t3, pos := p3, after := af3, guard := none } :: el) (hke : regOk eops x.m = true) (hkc : codeOk x.m c2 = true) (htn : tn < x.m) (htk : tk < x.m) (hte : te < x.m) (hne : (Nat.beq tn it || Nat.beq tk it) = false)
    (hit : ∀ mx seen y, Inv mx seen y → getT (LI y) it = some (Ptr br 0)) (hmap : ∀ mx seen y, Inv mx seen y → ∃ sz ro, Knows (OI y) bm ⟨sz, ro, mcells mx⟩)
    (hround : ∀ mx seen y k n v, Inv mx seen y → (k, n, v) ∈ mx.es → n ∉ seen →
      WXL P x eops noMk 1 el ((te, .tuple #[I k, v]) :: (tk, .bool true) :: (tn, .tuple #[.bool true, I k, v]) :: LI y) (OI y) fun s => W P .late c2 s fun e s' => e = .normal ∧ ∃ mx' y', Inv mx' (n :: seen) y' ∧ mx'.ck = mx.ck ∧ stamps mx' = stamps mx ∧ St x (LI y') (OI y') s')
    {ι0 : Lay} {h0 : AHeap} {w0 : World} (hr0 : HRel base ι0 h0 w0) {Q : Exit → Act → World → Prop} {D : List Deferred}
    (hend : ∀ mx seen y ι s a w, Inv mx seen y → (∀ e ∈ mx.es, e.2.1 ∈ seen) → St x ((tk, .bool false) :: (tn, .tuple #[.bool false]) :: LI y) (OI y) s → SRel base ι s a w → More base ι0 ι h0 s.h w0 → Keep0 ι0 h0 s.h w0 w → a.defers = D → Stay h0 s.h → Q .normal a w)
    {mx : MapX} {y : β} (hI : Inv mx [] y) {s : ASt} {a : Act} (hst : St x (LI y) (OI y) s) (hs : SRel base ι s a w) (hm0 : More base ι0 ι h0 s.h w0) (hk0 : Keep0 ι0 h0 s.h w0 w) (hD : a.defers = D) (hsy0 : Stay h0 s.h) (hi : Iter base ι bm br mx [] s.h w) (hbr : ∀ er, ι br = some er → w0.heap.size ≤ er.block) :
    (Code.block b1 (.loop (.seq (.region i3 #[{ dst := some tn, op := .next (.tmp it) false, type := t1, pos := p1, after := af1, guard := none }, { dst := some tk, op := .extract (.tmp tn) 0, type := t2, pos := p2, after := af2, guard := none }] false)
      (.seq (.cond (.tmp tk) .skip (.exit b1)) (.block b2 (.seq (.region i4 eops false) c2)))))).wpIn (FR none) 0 P Q a w := by
  refine wpIn_block (wpIn_loop_rounds (unseen (stamps mx) [] + 1) ?_)
  have key : ∀ (m : Nat) (seen : List Nat) (mx : MapX) (y : β) (ι : Lay) (s : ASt) (a : Act) (w : World), unseen (stamps mx) seen ≤ m → Inv mx seen y → St x (LI y) (OI y) s → SRel base ι s a w → More base ι0 ι h0 s.h w0 → Keep0 ι0 h0 s.h w0 w → a.defers = D → Stay h0 s.h → Iter base ι bm br mx seen s.h w → (∀ er, ι br = some er → w0.heap.size ≤ er.block) →
      Code.roundsIn (FR none) 0 P (.seq (.region i3 #[{ dst := some tn, op := .next (.tmp it) false, type := t1, pos := p1, after := af1, guard := none }, { dst := some tk, op := .extract (.tmp tn) 0, type := t2, pos := p2, after := af2, guard := none }] false)
      (.seq (.cond (.tmp tk) .skip (.exit b1)) (.block b2 (.seq (.region i4 eops false) c2)))) (Exit.inBlock b1 Q) (m + 1) a w := by
    intro m
    induction m using Nat.strongRecOn with
    | _ m ih =>
      intro seen mx y ι s a w hle hI hst hs hm0 hk0 hD hsy hi hbr
      obtain ⟨em, er, q1, q2, q3, q4, q5, q6, q7⟩ := hi.ex
      have hB := hbr er q3
      have hev : a.eval (.tmp it) = .pointer (some ⟨er.block, 0, none⟩) := by
        have h1 := hs.tmps it
        rw [hst.t it _ (hit mx seen y hI)] at h1
        obtain ⟨e, he, _, hpe⟩ := h1.ptr_inv
        obtain rfl := Option.some.inj (q3.symm.trans he)
        show a.tmps.getD it undef = _
        rw [hpe, q4]
      have dtn : ∀ d, some tn = some d → d < s.m := fun d hd => by injection hd with hd; rw [hst.m, ← hd]; exact htn
      have dtk : ∀ d, some tk = some d → d < s.m := fun d hd => by injection hd with hd; rw [hst.m, ← hd]; exact htk
      have dte : ∀ d, some te = some d → d < s.m := fun d hd => by injection hd with hd; rw [hst.m, ← hd]; exact hte
      have evp : ∀ (a : Act) (d : Tmp) (v : Value) (m : Nat), a.tmps.size = m → d < m → (a.put (some d) v).eval (.tmp d) = v := fun a d v m h1 h2 => by
        show (a.put (some d) v).tmps.getD d undef = v
        rw [put_getD h1 (fun d' hd => by injection hd with hd; rw [← hd]; exact h2), if_pos rfl]
      rw [roundsIn_succ]
      refine wpIn_seq (wpIn_region ?_)
      show wpOpsIn (FR none) 0 P _ _ [0, 1] a w
      rcases iter_next hi hs.heap (ty := t1) q3 with ⟨g1, g2⟩ | ⟨k, n, v, v', w1, g1, g2, g3, g4, g5, g6, g7, g8, g9⟩
      · have hs1 := hs.put (dst := some tn) (v := .tuple #[.bool false]) (v' := .tuple #[.bool false]) dtn (More.refl hs.heap) (.tuple rfl fun i u u' hu hu' => by
          rcases i with _ | i
          · simp at hu hu'; subst hu hu'; exact .atom rfl
          · simp at hu) hs.heap (Nat.le_refl _)
        have hs2 := hs1.put (dst := some tk) (v := .bool false) (v' := .bool false) (fun d hd => by rw [put_m]; exact dtk d hd) (More.refl hs1.heap) (.atom rfl) hs1.heap (Nat.le_refl _)
        refine opsIn_value (v := .tuple #[.bool false]) (w1 := w) rfl rfl (fun c h => by cases h) ?_ ?_
        · exact exec_next rfl hev g2
        refine opsIn_value (v := .bool false) (w1 := w) rfl rfl (fun c h => by cases h) ?_ ?_
        · exact exec_extract rfl (show (a.put (some tn) (.tuple #[.bool false])).eval (.tmp tn) = .tuple #[.bool false] from evp a tn _ s.m hs.size (dtn _ rfl)) rfl
        show (Code.seq (.cond (.tmp tk) .skip (.exit b1)) (.block b2 (.seq (.region i4 eops false) c2))).wpIn (FR none) 0 P _ _ w
        refine wpIn_seq (wpIn_cond_false (evp _ tk _ s.m (hs1.size.trans (put_m _ _ _ _)) (dtk _ rfl)) (wpIn_exit ?_))
        show (if b1 = b1 then _ else _)
        rw [if_pos rfl]
        refine hend mx seen y ι _ _ w hI g1 ⟨?_, (hst.t.put tn _ _).put tk _ _, ?_, fun q => ?_⟩ hs2 (by rw [put_h]; exact hm0) (by rw [put_h]; exact hk0) hD (by rw [put_h]; exact hsy)
        · rw [put_m, put_m]; exact hst.m
        · rw [put_h]; exact hst.sat
        · rw [put_h]; exact hst.old q
      · have hs1 := hs.put (dst := some tn) (v := .tuple #[.bool true, I k, v]) (v' := .tuple #[.bool true, I k, v']) (w1 := w1) dtn (More.refl hs.heap) (.tuple rfl fun i u u' hu hu' => by
          rcases i with _ | _ | _ | i
          · simp at hu hu'; subst hu hu'; exact .atom rfl
          · simp at hu hu'; subst hu hu'; exact .atom rfl
          · simp at hu hu'; subst hu hu'; exact g3
          · simp at hu) g5 (by omega)
        have hs2 := hs1.put (dst := some tk) (v := .bool true) (v' := .bool true) (fun d hd => by rw [put_m]; exact dtk d hd) (More.refl hs1.heap) (.atom rfl) hs1.heap (Nat.le_refl _)
        have hs3 := hs2.put (dst := some te) (v := .tuple #[I k, v]) (v' := .tuple #[I k, v']) (fun d hd => by rw [put_m, put_m]; exact dte d hd) (More.refl hs2.heap) (.tuple rfl fun i u u' hu hu' => by
          rcases i with _ | _ | i
          · simp at hu hu'; subst hu hu'; exact .atom rfl
          · simp at hu hu'; subst hu hu'; exact g3
          · simp at hu) hs2.heap (Nat.le_refl _)
        refine opsIn_value (v := .tuple #[.bool true, I k, v']) (w1 := w1) rfl rfl (fun c h => by cases h) ?_ ?_
        · exact exec_next rfl hev g4
        refine opsIn_value (v := .bool true) (w1 := w1) rfl rfl (fun c h => by cases h) ?_ ?_
        · exact exec_extract rfl (show (a.put (some tn) (.tuple #[.bool true, I k, v'])).eval (.tmp tn) = .tuple #[.bool true, I k, v'] from evp a tn _ s.m hs.size (dtn _ rfl)) rfl
        show (Code.seq (.cond (.tmp tk) .skip (.exit b1)) (.block b2 (.seq (.region i4 eops false) c2))).wpIn (FR none) 0 P _ _ w1
        refine wpIn_seq (wpIn_cond_true (evp _ tk _ s.m (hs1.size.trans (put_m _ _ _ _)) (dtk _ rfl)) (wpIn_skip ?_))
        show (Code.block b2 (.seq (.region i4 eops false) c2)).wpIn (FR none) 0 P _ _ w1
        refine wpIn_block (wpIn_seq (wpIn_region ?_))
        have hsz : eops.size = el.length + 1 := by rw [← Array.length_toList, hel]; rfl
        have hrg : List.range eops.size = 0 :: (List.range' 1 el.length ++ []) := by rw [hsz, List.range_eq_range', List.range'_succ, List.append_nil]
        rw [hrg]
        have hev2 : ((a.put (some tn) (.tuple #[.bool true, I k, v'])).put (some tk) (.bool true)).eval (.tmp it) = .pointer (some ⟨er.block, 0, none⟩) := by
          rw [← hev]
          show (Act.put _ _ _).tmps.getD it undef = a.tmps.getD it undef
          have n1 : tn ≠ it := fun e => by rw [e] at hne; simp at hne
          have n2 : tk ≠ it := fun e => by rw [e] at hne; simp at hne
          rw [put_getD (hs1.size.trans (put_m _ _ _ _)) dtk, if_neg (fun e => n2 (by injection e)), put_getD hs.size dtn, if_neg (fun e => n1 (by injection e))]
        refine opsIn_value (v := .tuple #[I k, v']) (w1 := w1) (by rw [← Array.getElem?_toList, hel]; rfl) rfl (fun c h => by cases h) ?_ ?_
        · exact exec_entry rfl hev2 g9
        have hst3 : St x ((te, .tuple #[I k, v]) :: (tk, .bool true) :: (tn, .tuple #[.bool true, I k, v]) :: LI y) (OI y) (((s.put (some tn) (.tuple #[.bool true, I k, v]) s.h).put (some tk) (.bool true) s.h).put (some te) (.tuple #[I k, v]) s.h) :=
          ⟨hst.m, ((hst.t.put tn _ s.h).put tk _ s.h).put te _ s.h, hst.sat, hst.old⟩
        refine WXL.wp hm (hround mx seen y k n v hI g1 g2) hx ⟨[], by rw [hel, List.append_nil]; rfl⟩ [] hke hst3 hs3 fun s4 ι4 a4 w4 hK r1 r2 r3 r4 r5 r6 => ?_
        obtain ⟨e5, s5, b5, _, rfl, mx', y', i1, i2, i3, i4'⟩ := hK (by rw [r5]; exact hkc)
        have hc5 : SoundC P .late c2 s4 .normal s5 := sound (fun _ _ _ h => draw_ok hm h) b5
        refine hc5.2.2.1 none base ι4 a4 w4 _ (fun _ => rfl) r1 CtxOk.none.late fun ι5 a5 w5 ds u1 u2 u3 u4 u5 => ?_
        have hlt := unseen_lt (seen := seen) g2 (ns := stamps mx) (List.mem_map.2 ⟨_, g1, rfl⟩)
        obtain ⟨m', rfl⟩ : ∃ m', m = m' + 1 := ⟨m - 1, by omega⟩
        show Code.roundsIn (FR none) 0 P _ _ (m' + 1) a5 w5
        have hr1 : HRel base ι s.h w1 := g5
        have mm := More.trans hr1 r1.heap r2 u2 r3.size
        have kk := Keep0.trans hr1 r1.heap r2 u2 r3 u3
        have kw := g7 ι0 h0 w0 hk0 hB
        obtain ⟨sz, ro, hkn⟩ := hmap mx' (n :: seen) y' i1
        obtain ⟨f, kv, hob⟩ := hkn s5.h i4'.sat
        refine ih m' (by omega) (n :: seen) mx' y' ι5 s5 a5 w5 (by rw [i3]; omega) i1 i4' u1 (More.trans hr0 hr1 hm0 mm kw.size) (Keep0.trans hr0 hr1 hm0 mm kw kk) ?_ (hsy.trans (Stay.trans r6 (stayJ b5))) (g8.keep hr1 mm kk i2 ⟨_, _, _, _, _, hob⟩) fun er' her' => ?_
        · rw [u4, u5.2.2 rfl, List.nil_append, r4]; exact hD
        · rw [More.lay hr1 mm _ _ q3] at her'
          obtain rfl := Option.some.inj her'
          exact hB
  exact key _ [] mx y ι s a w (Nat.le_refl _) hI hst hs hm0 hk0 hD hsy0 hi hbr

theorem exec_range {o : Oper} {ρ : Operand → Value} {y : Operand} {ty : TypeId} {v v0 : Value} (ho : o.op = .range ty y) (hy : ρ y = v0) (h : (Instr.range ty v0).run P w = .ok v w1) : (execOp ρ o).run P w = .ok (.value v) w1 := by
  subst hy
  unfold execOp
  rw [ho]
  simp only [Sem.run_bind, h, Result.andThen_ok, Sem.run_pure]

theorem Sat.bump {O : Objs} (hsat : Sat h O) : Sat h.bump O := ⟨hsat.nd, fun p hp => hsat.is p hp, ⟨fun b sz ro f m k c ho => by
      obtain ⟨q1, q2⟩ := hsat.wf.wf b sz ro f m k c ho
      exact ⟨Nat.lt_succ_of_lt q1, q2⟩, hsat.wf.fam, hsat.wf.uniq, fun b hb => hsat.wf.out b (Nat.le_of_succ_le hb)⟩⟩

/-- A loop over a map begins. -/
theorem range_start {ops : Array Oper} {n : Nat} {it : Tmp} {ty t0 k e : TypeId} {p0 : String} {af : Array Edge} {y : Operand} {bm sz : Nat} {ro : Bool} {mx : MapX} {s : ASt} {a : Act} {Q : Exit → Act → World → Prop}
    (ho : ops[n]? = some { dst := some it, op := .range ty y, type := t0, pos := p0, after := af, guard := none }) (hu : P.underlying ty = some (.map k e)) (hy : evL L y = some (Mp bm)) (hoy : okOperand y = true) (hkn : Knows O bm ⟨sz, ro, mcells mx⟩) (hit : it < x.m) (hxq : x.q = false)
    (hst : St x L O s) (hs : SRel base ι s a w)
    (h : ∀ ι' a' w', St x ((it, Ptr s.h.n 0) :: L) O (s.put (some it) (Ptr s.h.n 0) s.h.bump) → SRel base ι' (s.put (some it) (Ptr s.h.n 0) s.h.bump) a' w' → Iter base ι' bm s.h.n mx [] s.h.bump w' → More base ι ι' s.h s.h.bump w → Keep0 ι s.h s.h.bump w w' → (∀ er, ι' s.h.n = some er → w.heap.size ≤ er.block) → a'.defers = a.defers → Q .normal a' w') :
    wpOpsIn (FR none) 0 P ops Q [n] a w := by
  obtain ⟨f, kv, hob⟩ := hkn s.h hst.sat
  have hrel := operand_rel hs.tmps hoy
  rw [hst.t.ev hy] at hrel
  obtain ⟨em, q1, q2, q3⟩ := map_inv hrel
  obtain ⟨hone, es, clock, hes, c, hc0, hp, hp2, hp3⟩ := hs.heap.maps bm em _ _ _ _ _ _ q1 q2 hob
  unfold mcells at hc0
  injection hc0 with e1 e2
  injection e1 with _ e1
  have e1 : clock = mx.ck := by omega
  subst e1 e2
  have hrun := run_range_map (P := P) w ty k e em.block es mx.ck hu hes
  refine opsIn_value ho rfl (fun c h => by cases h) (exec_range rfl q3 hrun) ?_
  obtain ⟨W1, hW1⟩ : ∃ W1, W1 = w.alloc (.mapIter (some em.block) mx.ck #[] mx.ck) := ⟨_, rfl⟩
  have hsz : W1.heap.size = w.heap.size + 1 := by rw [hW1, World.size_alloc]
  have hbelow : ∀ B, B < w.heap.size → W1.heap[B]? = w.heap[B]? := fun B hB => by
    rw [hW1]
    show ((w.heap.push _)[B]? = _)
    rw [Array.getElem?_push, if_neg (by omega)]
  have hrec : W1.heap[w.heap.size]? = some (.mapIter (some em.block) mx.ck #[] mx.ck) := by
    rw [hW1]; exact World.alloc_heap_new _ _
  rw [← hW1]
  obtain ⟨ι1, hι1⟩ : ∃ ι1 : Lay, ι1 = fun b => if b = s.h.n then some ⟨w.heap.size, 0, 0, 0, false⟩ else ι b := ⟨_, rfl⟩
  have hr1 : HRel base ι1 s.h.bump W1 := by rw [hι1]; exact hs.heap.bump (by omega) hbelow (by show w.heap.size < _; omega) (Nat.le_refl _)
  have hm1 : More base ι ι1 s.h s.h.bump w := by rw [hι1]; exact More.bump hs.heap (Nat.le_refl _)
  have hk1 : Keep0 ι s.h s.h.bump w W1 := Keep0.grow (by rw [hW1]; rfl) (by rw [hW1]; rfl) (by rw [hW1]; rfl) (by omega) hbelow
  have hnew : ι1 s.h.n = some ⟨w.heap.size, 0, 0, 0, false⟩ := by rw [hι1]; exact if_pos rfl
  have hoff : Off ι1 s.h.bump w.heap.size := fun b e hb he => by
    rw [hι1] at hb
    by_cases hn : b = s.h.n
    · rw [hn]; exact hs.heap.out _ (Nat.le_refl _)
    · simp only [if_neg hn] at hb
      have := hs.heap.blk b e hb
      omega
  have hs1 := hs.put (dst := some it) (v := Ptr s.h.n 0) (v' := .pointer (some ⟨w.heap.size, 0, none⟩)) (fun d hd => by injection hd with hd; rw [hst.m, ← hd]; exact hit) hm1 (.ptr hnew rfl) hr1 (by omega)
  refine h ι1 _ W1 ⟨by rw [put_m]; exact hst.m, hst.t.put it _ _, hst.sat.bump, fun q => by rw [hxq] at q; cases q⟩ hs1 ⟨⟨em, _, More.lay hs.heap hm1 _ _ q1, q2, hnew, rfl, rfl, hoff, hrec⟩, ⟨_, _, _, _, _, hob⟩⟩ hm1 hk1 (fun er her => ?_) rfl
  rw [hnew] at her
  obtain rfl := Option.some.inj her
  exact Nat.le_refl _

/-- A function whose body does this is a direct one. -/
theorem callSem_of {f : FuncId} {fn : Func} {c : Code} {args : Array Value} {v : Value} (hf : P.funcs[f]? = some fn) (hb : fn.body = some c)
    (hw : ∀ base ι (w : World) (a : Act), SRel base ι (enterA fn args h) a w → a.defers = [] → c.wpIn (FR none) 0 P (fun e a' w' => (e = .normal ∨ e = .ret) ∧ a'.defers = [] ∧ ∃ ι' v', (results fn a'.tmps).run P w' = .ok v' w' ∧ More base ι ι' h h' w ∧ VRel ι' v v' ∧ HRel base ι' h' w' ∧ Keep0 ι h h' w w') a w) :
    ∀ ρ, CallSem P ρ f args h v h' := by
  intro ρ base ι w args' hr hbs hctx ha
  refine callsIn_wide (n := 0) |>.1 (callsIn_of_wp_marks hf hb trivial (wpIn_mono (hw base ι w _ (enter_rel hr hbs ha) rfl) ?_))
  intro e a' w' ⟨he, hd, ι', v', q1, q2, q3, q4, q5⟩
  have : LeavesInM (FR none) 0 P fn a'.tmps (fun e w' => ∃ ι' v', e = .returned v' ∧ More base ι ι' h h' w ∧ VRel ι' v v' ∧ HRel base ι' h' w' ∧ Keep0 ι h h' w w') a'.defers .returning w' := by
    rw [hd]
    exact ⟨v', q1, ι', v', rfl, q2, q3, q4, q5⟩
  rcases he with rfl | rfl <;> exact this

theorem WXL.nilK {ops : Array Oper} {mq : Mk} {i : Nat} {K : ASt → Prop} (h : ∀ s, St x L O s → K s) : WXL P x ops mq i [] L O K := fun _ _ s hs _ => ⟨s, .nil, rfl, h s hs⟩

/-! ### 4. A function shown by hand, part by part -/
/-- Where a run by hand stands. -/
def At (x : Cx) (L : Tmps) (O : Objs) (base : Nat) (ι0 : Lay) (h0 : AHeap) (w0 : World) (D : List Deferred) (a : Act) (w : World) : Prop :=
  ∃ ι s, St x L O s ∧ SRel base ι s a w ∧ More base ι0 ι h0 s.h w0 ∧ Keep0 ι0 h0 s.h w0 w ∧ a.defers = D ∧ Stay h0 s.h

variable {ι0 : Lay} {h0 : AHeap} {w0 : World} {D : List Deferred} {a : Act} {Q : Exit → Act → World → Prop}

theorem At.run (hm : P.follows .mixedOrders = true) (hr0 : HRel base ι0 h0 w0) (hat : At x L O base ι0 h0 w0 D a w) {c : Code} {R : Exit → Tmps → Objs → Prop} (hx : x.ρ = .late) (hk : codeOk x.m c = true)
    (ha : WX P x c L O (fun e s => ∃ L1 O1, R e L1 O1 ∧ St x L1 O1 s)) (h : ∀ e L1 O1 a w, R e L1 O1 → At x L1 O1 base ι0 h0 w0 D a w → Q e a w) : c.wpIn (FR none) 0 P Q a w := by
  obtain ⟨ι, s, h1, h2, h3, h4, h5, h6⟩ := hat
  refine WX.wp hm ha hx hk h1 h2 fun e s' ι' a' w' ⟨L1, O1, q1, q2⟩ r1 r2 r3 r4 r5 => h e L1 O1 a' w' q1 ⟨ι', s', q2, r1, More.trans hr0 h2.heap h3 r2 h4.size, Keep0.trans hr0 h2.heap h3 r2 h4 r3, r4.trans h5, h6.trans r5⟩

theorem At.seq (hm : P.follows .mixedOrders = true) (hr0 : HRel base ι0 h0 w0) (hat : At x L O base ι0 h0 w0 D a w) {c1 c2 : Code} {L1 : Tmps} {O1 : Objs} (hx : x.ρ = .late) (hk : codeOk x.m c1 = true)
    (ha : WX P x c1 L O (fun e s => e = .normal ∧ St x L1 O1 s)) (h : ∀ a w, At x L1 O1 base ι0 h0 w0 D a w → c2.wpIn (FR none) 0 P Q a w) : (Code.seq c1 c2).wpIn (FR none) 0 P Q a w :=
  wpIn_seq (At.run (R := fun e L' O' => e = .normal ∧ L' = L1 ∧ O' = O1) hm hr0 hat hx hk (fun s hs hk => by
    obtain ⟨e, s', b1, b2, b3, b4⟩ := ha s hs hk
    exact ⟨e, s', b1, b2, L1, O1, ⟨b3, rfl, rfl⟩, b4⟩) fun e L' O' a w ⟨q1, q2, q3⟩ hat => by
      subst q1 q2 q3
      exact h a w hat)

theorem pair_stamps {c : List (Int × Nat × Value)} : ∀ {es : List MapEntry}, PairRel ι (mflat c) es → c.map (·.2.1) = es.map (·.born) := by
  induction c with
  | nil => intro es hp; cases hp; rfl
  | cons p c ih =>
    obtain ⟨k, n, v⟩ := p
    intro es hp
    unfold mflat at hp
    generalize hX : I k :: I n :: v :: mflat c = X at hp
    cases hp with
    | nil => cases hX
    | cons h1 h2 h3 h4 =>
      rename_i c3 e2 es2
      injection hX with q1 q2
      injection q2 with q3 q4
      injection q4 with q5 q6
      subst q1 q5 q6
      injection q3 with _ q3
      rw [List.map_cons, List.map_cons, ih h4]
      congr 1
      show n = e2.born
      omega

theorem At.range (hm : P.follows .mixedOrders = true) (hr0 : HRel base ι0 h0 w0) (hat : At x L O base ι0 h0 w0 D a w) {β : Type} (LI : Nat → β → Tmps) (OI : β → Objs) (Inv : MapX → List Nat → β → Prop)
    {pl : List Oper} {ops : Array Oper} {i0 b1 b2 i3 i4 : Nat} {it tn tk te : Tmp} {ty t0 t1 t2 t3 kt et : TypeId} {p0 p1 p2 p3 : String} {af0 af1 af2 af3 : Array Edge} {eops : Array Oper} {el : List Oper} {c2 : Code} {y : Operand} {bm sz : Nat} {ro : Bool} {mx : MapX} {L1 : Tmps} {O1 : Objs}
    (hx : x.ρ = .late) (hxq : x.q = false) (n : Nat) (hops1 : ops.toList.take n = pl) (hops2 : ops.toList.drop n = [{ dst := some it, op := .range ty y, type := t0, pos := p0, after := af0, guard := none }]) (hreg : regOk ops x.m = true)
    (hpre : WXL P x ops noMk 0 pl L O (fun s => St x L1 O1 s)) (hu : P.underlying ty = some (.map kt et)) (hy : evL L1 y = some (Mp bm)) (hoy : okOperand y = true) (hkn : Knows O1 bm ⟨sz, ro, mcells mx⟩) (hlt : it < x.m)
    (hel : eops.toList = { dst := some te, op := .entry (.tmp it), type := t3, pos := p3, after := af3, guard := none } :: el) (hke : regOk eops x.m = true) (hkc : codeOk x.m c2 = true) (htn : tn < x.m) (htk : tk < x.m) (hte : te < x.m) (hne : (Nat.beq tn it || Nat.beq tk it) = false)
    (hit : ∀ br mx seen y, Inv mx seen y → getT (LI br y) it = some (Ptr br 0)) (hmap : ∀ mx seen y, Inv mx seen y → ∃ sz ro, Knows (OI y) bm ⟨sz, ro, mcells mx⟩)
    (hround : ∀ br mx seen y k n v, Inv mx seen y → (k, n, v) ∈ mx.es → n ∉ seen →
      WXL P x eops noMk 1 el ((te, .tuple #[I k, v]) :: (tk, .bool true) :: (tn, .tuple #[.bool true, I k, v]) :: LI br y) (OI y) fun s => W P .late c2 s fun e s' => e = .normal ∧ ∃ mx' y', Inv mx' (n :: seen) y' ∧ mx'.ck = mx.ck ∧ stamps mx' = stamps mx ∧ St x (LI br y') (OI y') s')
    {y0 : β} (hI : (stamps mx).Nodup → Inv mx [] y0) (h1 : ∀ br s, St x ((it, Ptr br 0) :: L1) O1 s → St x (LI br y0) (OI y0) s)
    (hend : ∀ br mx seen y a w, Inv mx seen y → (∀ e ∈ mx.es, e.2.1 ∈ seen) → At x ((tk, .bool false) :: (tn, .tuple #[.bool false]) :: LI br y) (OI y) base ι0 h0 w0 D a w → Q .normal a w) :
    (Code.seq (.region i0 ops false) (Code.block b1 (.loop (.seq (.region i3 #[{ dst := some tn, op := .next (.tmp it) false, type := t1, pos := p1, after := af1, guard := none }, { dst := some tk, op := .extract (.tmp tn) 0, type := t2, pos := p2, after := af2, guard := none }] false)
      (.seq (.cond (.tmp tk) .skip (.exit b1)) (.block b2 (.seq (.region i4 eops false) c2))))))).wpIn (FR none) 0 P Q a w := by
  obtain ⟨ι, s, g1, g2, g3, g4, g5, g6⟩ := hat
  have hops : ops.toList = pl ++ [{ dst := some it, op := .range ty y, type := t0, pos := p0, after := af0, guard := none }] := by rw [← hops1, ← hops2, List.take_append_drop]
  refine wpIn_seq (wpIn_region ?_)
  have hsz : ops.size = pl.length + 1 := by rw [← Array.length_toList, hops, List.length_append]; rfl
  have hrg : List.range ops.size = List.range' 0 pl.length ++ [pl.length] := by rw [hsz, List.range_succ, List.range_eq_range']
  rw [hrg]
  refine WXL.wp hm hpre hx ⟨_, by rw [List.drop_zero]; exact hops⟩ [pl.length] hreg g1 g2 fun s2 ι2 a2 w2 hK r1 r2 r3 r4 r5 r6 => ?_
  have m2 := More.trans hr0 g2.heap g3 r2 g4.size
  have k2 := Keep0.trans hr0 g2.heap g3 r2 g4 r3
  refine range_start (x := x) (L := L1) (O := O1) (s := s2) (it := it) (ty := ty) (t0 := t0) (p0 := p0) (af := af0) (y := y) (by rw [← Array.getElem?_toList, hops]; simp) hu hy hoy hkn hlt hxq hK r1 fun ι3 a3 w3 t1 t2 t3 t4 t5 t6 t7 => ?_
  have m3 := More.trans hr0 r1.heap m2 t4 k2.size
  have k3 := Keep0.trans hr0 r1.heap m2 t4 k2 t5
  obtain ⟨f, kv, hob⟩ := hkn s2.h hK.sat
  have hnd : (stamps mx).Nodup := by
    have hrel := operand_rel r1.tmps hoy
    rw [hK.t.ev hy] at hrel
    obtain ⟨em, q1, q2, q3⟩ := map_inv hrel
    obtain ⟨hone, es, clock, hes, c, hc0, hp, hp2, hp3⟩ := r1.heap.maps bm em _ _ _ _ _ _ q1 q2 hob
    unfold mcells at hc0
    injection hc0 with e1 e2
    subst e2
    unfold stamps
    rw [pair_stamps hp]
    have p2 : (es.toList.map (·.born)).Pairwise (· < ·) := List.pairwise_map.2 hp3
    exact p2.imp fun hlt => Nat.ne_of_lt hlt
  refine range_loop hm (LI s2.h.n) OI Inv hx hel hke hkc htn htk hte hne (hit s2.h.n) hmap (hround s2.h.n) hr0 (fun mx seen y ι s a w q1 q2 q3 q4 q5 q6 q7 q8 => hend s2.h.n mx seen y a w q1 q2 ⟨ι, s, q3, q4, q5, q6, q7, q8⟩) (hI hnd) (h1 _ _ t1) t2 (by rw [put_h]; exact m3) (by rw [put_h]; exact k3) (t7.trans (r4.trans g5)) (by rw [put_h]; exact (g6.trans r6).trans ⟨Nat.le_succ _, fun _ _ _ => rfl⟩) (by rw [put_h]; exact t3) (fun er her => ?_)
  exact Nat.le_trans k2.size (t6 er her)

/-! ### 5. Heaps of which less may be written -/
def AHeap.rox (F : Nat → Bool) (h : AHeap) : AHeap := { n := h.n, o := fun b => bif F b then mkro (h.o b) else h.o b }

theorem rox_cells {F : Nat → Bool} {b sz ro f st k c} (ho : (h.rox F).o b = .cells sz ro f st k c) : ∃ ro', h.o b = .cells sz ro' f st k c ∧ (ro = false → ro' = false) := by
  simp only [AHeap.rox] at ho
  cases hF : F b with
  | false => rw [hF] at ho; exact ⟨ro, ho, id⟩
  | true =>
    rw [hF] at ho
    change mkro (h.o b) = _ at ho
    cases hb : h.o b with
    | dead => rw [hb] at ho; cases ho
    | cells sz1 ro1 f1 st1 k1 c1 =>
      rw [hb] at ho
      injection ho with e1 e2 e3 e4 e5 e6
      subst e1 e3 e4 e5 e6
      exact ⟨ro1, rfl, fun q => by rw [← e2] at q; cases q⟩

theorem rox_is {F : Nat → Bool} {b sz ro f st k c} (ho : h.o b = .cells sz ro f st k c) : ∃ ro', (h.rox F).o b = .cells sz ro' f st k c ∧ ro' = (F b || ro) := by
  simp only [AHeap.rox, ho]
  cases F b
  · exact ⟨ro, rfl, rfl⟩
  · exact ⟨true, rfl, rfl⟩

theorem rox_rd {F : Nat → Bool} (b : Nat) : (h.rox F).rd b = h.rd b := by
  unfold AHeap.rd
  cases ho : h.o b with
  | dead =>
    have : (h.rox F).o b = .dead := by simp only [AHeap.rox, ho]; cases F b <;> rfl
    rw [this]
  | cells sz ro f st k c =>
    obtain ⟨ro', e, _⟩ := rox_is (F := F) ho
    rw [e]
    cases st with
    | none => rfl
    | some m =>
      simp only
      cases hm : h.o m with
      | dead =>
        have : (h.rox F).o m = .dead := by simp only [AHeap.rox, hm]; cases F m <;> rfl
        rw [this]
      | cells sz2 ro2 f2 st2 k2 c2 =>
        obtain ⟨ro3, e2, _⟩ := rox_is (F := F) hm
        rw [e2]
        cases st2 <;> cases k2 <;> rfl

theorem HRel.rox (hr : HRel base ι h w) (F : Nat → Bool) : HRel base ι (h.rox F) w := by
  refine ⟨hr.lt, hr.blk, fun b e sz ro f st k c he ho => ?_, fun b e c i v he hmp hc hi => hr.val b e c i v he hmp (by rw [← rox_rd (F := F)]; exact hc) hi, fun b e sz f st k c i he ho hi => ?_, fun b1 e1 b2 e2 sz1 ro1 f1 st1 k1 c1 sz2 f2 st2 k2 c2 l1 l2 o1 o2 => ?_,
    fun b1 e1 b2 e2 f1 sz1 ro1 st1 k1 c1 sz2 ro2 st2 k2 c2 l1 l2 o1 o2 => ?_, fun b sz ro f m k c ho => ?_, fun b sz ro f st k c ho => ?_, fun y z f1 sz1 ro1 st1 k1 c1 sz2 ro2 k2 c2 o1 o2 hor => ?_, fun b hb => ?_, fun b e sz ro f st k c he hmp ho => ?_⟩
  · obtain ⟨r, q, q2⟩ := rox_cells ho
    obtain ⟨g1, g2, g3, g4⟩ := hr.szs b e _ _ _ _ _ _ he q
    exact ⟨g1, g2, fun e => g3 (q2 e), g4⟩
  · obtain ⟨r, q, q2⟩ := rox_cells ho
    obtain rfl := q2 rfl
    exact hr.room b e _ _ _ _ _ i he q hi
  · obtain ⟨r, q, _⟩ := rox_cells o1
    obtain ⟨r2, q2, q3⟩ := rox_cells o2
    obtain rfl := q3 rfl
    exact hr.apart b1 e1 b2 e2 _ _ _ _ _ _ _ _ _ _ _ l1 l2 q q2
  · obtain ⟨r, q, _⟩ := rox_cells o1
    obtain ⟨r2, q2, q3⟩ := rox_cells o2
    exact hr.link b1 e1 b2 e2 _ _ _ _ _ _ _ _ _ _ _ l1 l2 q q2
  · obtain ⟨r, q, _⟩ := rox_cells ho
    obtain ⟨g1, sz', ro', st', k', c', g2⟩ := hr.wf b _ _ _ _ _ _ q
    obtain ⟨r', g3, _⟩ := rox_is (F := F) g2
    exact ⟨g1, _, _, _, _, _, g3⟩
  · obtain ⟨r, q, _⟩ := rox_cells ho
    exact hr.fam b _ _ _ _ _ _ q
  · obtain ⟨r, q, p⟩ := rox_cells o1
    obtain ⟨r2, q2, p2⟩ := rox_cells o2
    exact hr.uniq y z _ _ _ _ _ _ _ _ _ _ q q2 (hor.imp p2 fun ⟨e1, e2⟩ => ⟨p e1, e2⟩)
  · simp only [AHeap.rox, hr.out b hb]; cases F b <;> rfl
  · obtain ⟨r, q, _⟩ := rox_cells ho
    exact hr.maps b e _ _ _ _ _ _ he hmp q

theorem Is.rox {b : Nat} {y : Ent} (hi : Is h b y) (F : Nat → Bool) : Is (h.rox F) b ⟨y.sz, F b || y.ro, y.c⟩ := by
  obtain ⟨f, k, e⟩ := hi
  obtain ⟨r, q, rfl⟩ := rox_is (F := F) e
  exact ⟨f, k, q⟩

end Go.Proofs.Ytahaplbdhgfobaa.Eng

namespace Go.Proofs.Ytahaplbdhgfobaa.Eng

theorem agg1 : isAggT Try.prog 1 = some false := by kernel_rfl
theorem sz1 : szOf Try.prog 1 = some 1 := by kernel_rfl
theorem by1 : byOf Try.prog 1 = some 8 := by kernel_rfl
theorem zero1 : zeroOf Try.prog 1 = some (.nilFunc) := by kernel_rfl
-- kind 1 : func
theorem agg2 : isAggT Try.prog 2 = some false := by kernel_rfl
theorem sz2 : szOf Try.prog 2 = some 1 := by kernel_rfl
theorem by2 : byOf Try.prog 2 = some 8 := by kernel_rfl
theorem zero2 : zeroOf Try.prog 2 = some (.int .i64 0) := by kernel_rfl
-- kind 2 : int
theorem agg3 : isAggT Try.prog 3 = some false := by kernel_rfl
theorem sz3 : szOf Try.prog 3 = some 1 := by kernel_rfl
theorem by3 : byOf Try.prog 3 = some 8 := by kernel_rfl
theorem zero3 : zeroOf Try.prog 3 = some (.int .i64 0) := by kernel_rfl
-- kind 3 : int
theorem agg4 : isAggT Try.prog 4 = some false := by kernel_rfl
theorem sz4 : szOf Try.prog 4 = some 1 := by kernel_rfl
theorem by4 : byOf Try.prog 4 = some 1 := by kernel_rfl
theorem zero4 : zeroOf Try.prog 4 = some (.bool false) := by kernel_rfl
-- kind 4 : bool
theorem agg5 : isAggT Try.prog 5 = some false := by kernel_rfl
theorem sz5 : szOf Try.prog 5 = some 1 := by kernel_rfl
theorem by5 : byOf Try.prog 5 = some 1 := by kernel_rfl
theorem zero5 : zeroOf Try.prog 5 = some (.int .u8 0) := by kernel_rfl
-- kind 5 : int
theorem agg6 : isAggT Try.prog 6 = some false := by kernel_rfl
theorem sz6 : szOf Try.prog 6 = some 1 := by kernel_rfl
theorem by6 : byOf Try.prog 6 = some 1 := by kernel_rfl
theorem zero6 : zeroOf Try.prog 6 = some (.int .u8 0) := by kernel_rfl
-- kind 6 : int
theorem agg7 : isAggT Try.prog 7 = some true := by kernel_rfl
theorem sz7 : szOf Try.prog 7 = some 4 := by kernel_rfl
theorem by7 : byOf Try.prog 7 = some 24 := by kernel_rfl
theorem zero7 : zeroOf Try.prog 7 = some (.agg #[.int .i64 0, .int .i64 0, .bool false, .int .u8 0]) := by kernel_rfl
-- kind 7 : struct
-- struct 7 : 2 3 4 6
theorem places7 : placesOf Try.prog 7 = some [(0, 1), (1, 1), (2, 1), (3, 1)] := by kernel_rfl
theorem agg8 : isAggT Try.prog 8 = some true := by kernel_rfl
theorem sz8 : szOf Try.prog 8 = some 4 := by kernel_rfl
theorem by8 : byOf Try.prog 8 = some 24 := by kernel_rfl
theorem zero8 : zeroOf Try.prog 8 = some (.agg #[.int .i64 0, .int .i64 0, .bool false, .int .u8 0]) := by kernel_rfl
-- kind 8 : struct
-- struct 8 : 2 3 4 6
theorem places8 : placesOf Try.prog 8 = some [(0, 1), (1, 1), (2, 1), (3, 1)] := by kernel_rfl
theorem agg9 : isAggT Try.prog 9 = some false := by kernel_rfl
theorem sz9 : szOf Try.prog 9 = some 1 := by kernel_rfl
theorem by9 : byOf Try.prog 9 = some 16 := by kernel_rfl
theorem zero9 : zeroOf Try.prog 9 = some (.string ByteArray.empty) := by kernel_rfl
theorem isrow9 : isRowT Try.prog 9 = true := by kernel_rfl
-- kind 9 : string
theorem agg10 : isAggT Try.prog 10 = some false := by kernel_rfl
theorem sz10 : szOf Try.prog 10 = some 1 := by kernel_rfl
theorem by10 : byOf Try.prog 10 = some 16 := by kernel_rfl
theorem zero10 : zeroOf Try.prog 10 = some (.string ByteArray.empty) := by kernel_rfl
theorem isrow10 : isRowT Try.prog 10 = true := by kernel_rfl
-- kind 10 : string
theorem agg11 : isAggT Try.prog 11 = some false := by kernel_rfl
theorem sz11 : szOf Try.prog 11 = some 1 := by kernel_rfl
theorem by11 : byOf Try.prog 11 = some 16 := by kernel_rfl
theorem zero11 : zeroOf Try.prog 11 = some (.string ByteArray.empty) := by kernel_rfl
theorem isrow11 : isRowT Try.prog 11 = true := by kernel_rfl
-- kind 11 : string
theorem agg12 : isAggT Try.prog 12 = some false := by kernel_rfl
theorem sz12 : szOf Try.prog 12 = some 1 := by kernel_rfl
theorem by12 : byOf Try.prog 12 = some 8 := by kernel_rfl
theorem zero12 : zeroOf Try.prog 12 = some (.int .u64 0) := by kernel_rfl
-- kind 12 : int
theorem agg13 : isAggT Try.prog 13 = some true := by kernel_rfl
theorem sz13 : szOf Try.prog 13 = some 2 := by kernel_rfl
theorem by13 : byOf Try.prog 13 = some 24 := by kernel_rfl
theorem zero13 : zeroOf Try.prog 13 = some (.agg #[.string ByteArray.empty, .int .u64 0]) := by kernel_rfl
-- kind 13 : struct
-- struct 13 : 9 12
theorem places13 : placesOf Try.prog 13 = some [(0, 1), (1, 1)] := by kernel_rfl
theorem agg14 : isAggT Try.prog 14 = some true := by kernel_rfl
theorem sz14 : szOf Try.prog 14 = some 2 := by kernel_rfl
theorem by14 : byOf Try.prog 14 = some 24 := by kernel_rfl
theorem zero14 : zeroOf Try.prog 14 = some (.agg #[.string ByteArray.empty, .int .u64 0]) := by kernel_rfl
-- kind 14 : struct
-- struct 14 : 9 12
theorem places14 : placesOf Try.prog 14 = some [(0, 1), (1, 1)] := by kernel_rfl
theorem agg15 : isAggT Try.prog 15 = some false := by kernel_rfl
theorem sz15 : szOf Try.prog 15 = some 1 := by kernel_rfl
theorem by15 : byOf Try.prog 15 = some 8 := by kernel_rfl
theorem zero15 : zeroOf Try.prog 15 = some (.pointer none) := by kernel_rfl
-- kind 15 : pointer
theorem agg16 : isAggT Try.prog 16 = some false := by kernel_rfl
theorem sz16 : szOf Try.prog 16 = some 1 := by kernel_rfl
theorem by16 : byOf Try.prog 16 = some 8 := by kernel_rfl
theorem zero16 : zeroOf Try.prog 16 = some (.pointer none) := by kernel_rfl
-- kind 16 : pointer
theorem agg17 : isAggT Try.prog 17 = some false := by kernel_rfl
theorem sz17 : szOf Try.prog 17 = some 1 := by kernel_rfl
theorem by17 : byOf Try.prog 17 = some 8 := by kernel_rfl
theorem zero17 : zeroOf Try.prog 17 = some (.pointer none) := by kernel_rfl
-- kind 17 : pointer
theorem agg18 : isAggT Try.prog 18 = some true := by kernel_rfl
theorem sz18 : szOf Try.prog 18 = some 1 := by kernel_rfl
theorem by18 : byOf Try.prog 18 = some 8 := by kernel_rfl
theorem zero18 : zeroOf Try.prog 18 = some (.agg #[.pointer none]) := by kernel_rfl
-- kind 18 : struct
-- struct 18 : 17
theorem places18 : placesOf Try.prog 18 = some [(0, 1)] := by kernel_rfl
theorem agg19 : isAggT Try.prog 19 = some true := by kernel_rfl
theorem sz19 : szOf Try.prog 19 = some 1 := by kernel_rfl
theorem by19 : byOf Try.prog 19 = some 8 := by kernel_rfl
theorem zero19 : zeroOf Try.prog 19 = some (.agg #[.pointer none]) := by kernel_rfl
-- kind 19 : struct
-- struct 19 : 17
theorem places19 : placesOf Try.prog 19 = some [(0, 1)] := by kernel_rfl
theorem agg20 : isAggT Try.prog 20 = some false := by kernel_rfl
theorem sz20 : szOf Try.prog 20 = some 1 := by kernel_rfl
theorem by20 : byOf Try.prog 20 = some 16 := by kernel_rfl
theorem zero20 : zeroOf Try.prog 20 = some (.nilIface) := by kernel_rfl
-- kind 20 : interface
theorem agg21 : isAggT Try.prog 21 = some false := by kernel_rfl
theorem sz21 : szOf Try.prog 21 = some 1 := by kernel_rfl
theorem by21 : byOf Try.prog 21 = some 4 := by kernel_rfl
theorem zero21 : zeroOf Try.prog 21 = some (.int .i32 0) := by kernel_rfl
-- kind 21 : int
theorem agg22 : isAggT Try.prog 22 = some false := by kernel_rfl
theorem sz22 : szOf Try.prog 22 = some 1 := by kernel_rfl
theorem by22 : byOf Try.prog 22 = some 24 := by kernel_rfl
theorem zero22 : zeroOf Try.prog 22 = some (.slice none 0 0) := by kernel_rfl
theorem elem22 : elemOf Try.prog 22 = some 27 := by kernel_rfl
theorem isrow22 : isRowT Try.prog 22 = true := by kernel_rfl
-- kind 22 : slice
theorem agg23 : isAggT Try.prog 23 = some false := by kernel_rfl
theorem sz23 : szOf Try.prog 23 = some 1 := by kernel_rfl
theorem by23 : byOf Try.prog 23 = some 8 := by kernel_rfl
theorem zero23 : zeroOf Try.prog 23 = some (.pointer none) := by kernel_rfl
-- kind 23 : pointer
theorem agg24 : isAggT Try.prog 24 = some false := by kernel_rfl
theorem sz24 : szOf Try.prog 24 = some 1 := by kernel_rfl
theorem by24 : byOf Try.prog 24 = some 8 := by kernel_rfl
theorem zero24 : zeroOf Try.prog 24 = some (.int .i64 0) := by kernel_rfl
-- kind 24 : int
theorem agg26 : isAggT Try.prog 26 = some false := by kernel_rfl
theorem sz26 : szOf Try.prog 26 = some 1 := by kernel_rfl
theorem by26 : byOf Try.prog 26 = some 8 := by kernel_rfl
theorem zero26 : zeroOf Try.prog 26 = some (.nilFunc) := by kernel_rfl
-- kind 26 : func
theorem agg27 : isAggT Try.prog 27 = some false := by kernel_rfl
theorem sz27 : szOf Try.prog 27 = some 1 := by kernel_rfl
theorem by27 : byOf Try.prog 27 = some 24 := by kernel_rfl
theorem zero27 : zeroOf Try.prog 27 = some (.slice none 0 0) := by kernel_rfl
theorem elem27 : elemOf Try.prog 27 = some 5 := by kernel_rfl
theorem isrow27 : isRowT Try.prog 27 = true := by kernel_rfl
-- kind 27 : slice
theorem agg28 : isAggT Try.prog 28 = some false := by kernel_rfl
theorem sz28 : szOf Try.prog 28 = some 1 := by kernel_rfl
theorem by28 : byOf Try.prog 28 = some 8 := by kernel_rfl
theorem zero28 : zeroOf Try.prog 28 = some (.nilFunc) := by kernel_rfl
-- kind 28 : func
theorem agg29 : isAggT Try.prog 29 = some false := by kernel_rfl
theorem sz29 : szOf Try.prog 29 = some 1 := by kernel_rfl
theorem by29 : byOf Try.prog 29 = some 8 := by kernel_rfl
theorem zero29 : zeroOf Try.prog 29 = some (.nilFunc) := by kernel_rfl
-- kind 29 : func
theorem agg30 : isAggT Try.prog 30 = some false := by kernel_rfl
theorem sz30 : szOf Try.prog 30 = some 1 := by kernel_rfl
theorem by30 : byOf Try.prog 30 = some 8 := by kernel_rfl
theorem zero30 : zeroOf Try.prog 30 = some (.nilFunc) := by kernel_rfl
-- kind 30 : func
theorem agg31 : isAggT Try.prog 31 = some false := by kernel_rfl
theorem sz31 : szOf Try.prog 31 = some 1 := by kernel_rfl
theorem by31 : byOf Try.prog 31 = some 8 := by kernel_rfl
theorem zero31 : zeroOf Try.prog 31 = some (.nilFunc) := by kernel_rfl
-- kind 31 : func
theorem agg32 : isAggT Try.prog 32 = some false := by kernel_rfl
theorem sz32 : szOf Try.prog 32 = some 1 := by kernel_rfl
theorem by32 : byOf Try.prog 32 = some 8 := by kernel_rfl
theorem zero32 : zeroOf Try.prog 32 = some (.nilFunc) := by kernel_rfl
-- kind 32 : func
theorem agg33 : isAggT Try.prog 33 = some false := by kernel_rfl
theorem sz33 : szOf Try.prog 33 = some 1 := by kernel_rfl
theorem by33 : byOf Try.prog 33 = some 24 := by kernel_rfl
theorem zero33 : zeroOf Try.prog 33 = some (.slice none 0 0) := by kernel_rfl
theorem elem33 : elemOf Try.prog 33 = some 3 := by kernel_rfl
theorem isrow33 : isRowT Try.prog 33 = true := by kernel_rfl
-- kind 33 : slice
theorem agg35 : isAggT Try.prog 35 = some false := by kernel_rfl
theorem sz35 : szOf Try.prog 35 = some 1 := by kernel_rfl
theorem by35 : byOf Try.prog 35 = some 8 := by kernel_rfl
theorem zero35 : zeroOf Try.prog 35 = some (.nilFunc) := by kernel_rfl
-- kind 35 : func
theorem agg36 : isAggT Try.prog 36 = some false := by kernel_rfl
theorem sz36 : szOf Try.prog 36 = some 1 := by kernel_rfl
theorem by36 : byOf Try.prog 36 = some 8 := by kernel_rfl
theorem zero36 : zeroOf Try.prog 36 = some (.nilFunc) := by kernel_rfl
-- kind 36 : func
theorem agg37 : isAggT Try.prog 37 = some false := by kernel_rfl
theorem sz37 : szOf Try.prog 37 = some 1 := by kernel_rfl
theorem by37 : byOf Try.prog 37 = some 8 := by kernel_rfl
theorem zero37 : zeroOf Try.prog 37 = some (.nilFunc) := by kernel_rfl
-- kind 37 : func
theorem agg38 : isAggT Try.prog 38 = some false := by kernel_rfl
theorem sz38 : szOf Try.prog 38 = some 1 := by kernel_rfl
theorem by38 : byOf Try.prog 38 = some 8 := by kernel_rfl
theorem zero38 : zeroOf Try.prog 38 = some (.nilFunc) := by kernel_rfl
-- kind 38 : func
theorem agg39 : isAggT Try.prog 39 = some false := by kernel_rfl
theorem sz39 : szOf Try.prog 39 = some 1 := by kernel_rfl
theorem by39 : byOf Try.prog 39 = some 8 := by kernel_rfl
theorem zero39 : zeroOf Try.prog 39 = some (.nilFunc) := by kernel_rfl
-- kind 39 : func
theorem agg40 : isAggT Try.prog 40 = some false := by kernel_rfl
theorem sz40 : szOf Try.prog 40 = some 1 := by kernel_rfl
theorem by40 : byOf Try.prog 40 = some 8 := by kernel_rfl
theorem zero40 : zeroOf Try.prog 40 = some (.nilFunc) := by kernel_rfl
-- kind 40 : func
theorem agg41 : isAggT Try.prog 41 = some false := by kernel_rfl
theorem sz41 : szOf Try.prog 41 = some 1 := by kernel_rfl
theorem by41 : byOf Try.prog 41 = some 8 := by kernel_rfl
theorem zero41 : zeroOf Try.prog 41 = some (.nilFunc) := by kernel_rfl
-- kind 41 : func
theorem agg42 : isAggT Try.prog 42 = some false := by kernel_rfl
theorem sz42 : szOf Try.prog 42 = some 1 := by kernel_rfl
theorem by42 : byOf Try.prog 42 = some 8 := by kernel_rfl
theorem zero42 : zeroOf Try.prog 42 = some (.pointer none) := by kernel_rfl
-- kind 42 : pointer
theorem agg43 : isAggT Try.prog 43 = some false := by kernel_rfl
theorem sz43 : szOf Try.prog 43 = some 1 := by kernel_rfl
theorem by43 : byOf Try.prog 43 = some 8 := by kernel_rfl
theorem zero43 : zeroOf Try.prog 43 = some (.nilFunc) := by kernel_rfl
-- kind 43 : func
theorem agg44 : isAggT Try.prog 44 = some false := by kernel_rfl
theorem sz44 : szOf Try.prog 44 = some 1 := by kernel_rfl
theorem by44 : byOf Try.prog 44 = some 24 := by kernel_rfl
theorem zero44 : zeroOf Try.prog 44 = some (.slice none 0 0) := by kernel_rfl
theorem elem44 : elemOf Try.prog 44 = some 48 := by kernel_rfl
theorem isrow44 : isRowT Try.prog 44 = true := by kernel_rfl
-- kind 44 : slice
theorem agg45 : isAggT Try.prog 45 = some false := by kernel_rfl
theorem sz45 : szOf Try.prog 45 = some 1 := by kernel_rfl
theorem by45 : byOf Try.prog 45 = some 8 := by kernel_rfl
theorem zero45 : zeroOf Try.prog 45 = some (.nilFunc) := by kernel_rfl
-- kind 45 : func
theorem agg46 : isAggT Try.prog 46 = some false := by kernel_rfl
theorem sz46 : szOf Try.prog 46 = some 1 := by kernel_rfl
theorem by46 : byOf Try.prog 46 = some 8 := by kernel_rfl
theorem zero46 : zeroOf Try.prog 46 = some (.nilFunc) := by kernel_rfl
-- kind 46 : func
theorem agg47 : isAggT Try.prog 47 = some true := by kernel_rfl
theorem sz47 : szOf Try.prog 47 = some 5 := by kernel_rfl
theorem by47 : byOf Try.prog 47 = some 72 := by kernel_rfl
theorem zero47 : zeroOf Try.prog 47 = some (.agg #[.int .i64 0, .int .i64 0, .int .i64 0, .slice none 0 0, .slice none 0 0]) := by kernel_rfl
-- kind 47 : struct
-- struct 47 : 3 3 3 27 33
theorem places47 : placesOf Try.prog 47 = some [(0, 1), (1, 1), (2, 1), (3, 1), (4, 1)] := by kernel_rfl
theorem agg48 : isAggT Try.prog 48 = some true := by kernel_rfl
theorem sz48 : szOf Try.prog 48 = some 5 := by kernel_rfl
theorem by48 : byOf Try.prog 48 = some 72 := by kernel_rfl
theorem zero48 : zeroOf Try.prog 48 = some (.agg #[.int .i64 0, .int .i64 0, .int .i64 0, .slice none 0 0, .slice none 0 0]) := by kernel_rfl
-- kind 48 : struct
-- struct 48 : 3 3 3 27 33
theorem places48 : placesOf Try.prog 48 = some [(0, 1), (1, 1), (2, 1), (3, 1), (4, 1)] := by kernel_rfl
theorem agg49 : isAggT Try.prog 49 = some false := by kernel_rfl
theorem sz49 : szOf Try.prog 49 = some 1 := by kernel_rfl
theorem by49 : byOf Try.prog 49 = some 8 := by kernel_rfl
theorem zero49 : zeroOf Try.prog 49 = some (.nilFunc) := by kernel_rfl
-- kind 49 : func
theorem agg50 : isAggT Try.prog 50 = some false := by kernel_rfl
theorem sz50 : szOf Try.prog 50 = some 1 := by kernel_rfl
theorem by50 : byOf Try.prog 50 = some 8 := by kernel_rfl
theorem zero50 : zeroOf Try.prog 50 = some (.nilFunc) := by kernel_rfl
-- kind 50 : func
theorem agg51 : isAggT Try.prog 51 = some false := by kernel_rfl
theorem sz51 : szOf Try.prog 51 = some 1 := by kernel_rfl
theorem by51 : byOf Try.prog 51 = some 8 := by kernel_rfl
theorem zero51 : zeroOf Try.prog 51 = some (.nilFunc) := by kernel_rfl
-- kind 51 : func
theorem agg53 : isAggT Try.prog 53 = some false := by kernel_rfl
theorem sz53 : szOf Try.prog 53 = some 1 := by kernel_rfl
theorem by53 : byOf Try.prog 53 = some 8 := by kernel_rfl
theorem zero53 : zeroOf Try.prog 53 = some (.nilFunc) := by kernel_rfl
-- kind 53 : func
theorem agg54 : isAggT Try.prog 54 = some false := by kernel_rfl
theorem sz54 : szOf Try.prog 54 = some 1 := by kernel_rfl
theorem by54 : byOf Try.prog 54 = some 8 := by kernel_rfl
theorem zero54 : zeroOf Try.prog 54 = some (.nilFunc) := by kernel_rfl
-- kind 54 : func
theorem agg55 : isAggT Try.prog 55 = some false := by kernel_rfl
theorem sz55 : szOf Try.prog 55 = some 1 := by kernel_rfl
theorem by55 : byOf Try.prog 55 = some 8 := by kernel_rfl
theorem zero55 : zeroOf Try.prog 55 = some (.nilFunc) := by kernel_rfl
-- kind 55 : func
theorem agg56 : isAggT Try.prog 56 = some false := by kernel_rfl
theorem sz56 : szOf Try.prog 56 = some 1 := by kernel_rfl
theorem by56 : byOf Try.prog 56 = some 8 := by kernel_rfl
theorem zero56 : zeroOf Try.prog 56 = some (.nilFunc) := by kernel_rfl
-- kind 56 : func
theorem agg57 : isAggT Try.prog 57 = some true := by kernel_rfl
theorem sz57 : szOf Try.prog 57 = some 5 := by kernel_rfl
theorem by57 : byOf Try.prog 57 = some 72 := by kernel_rfl
theorem zero57 : zeroOf Try.prog 57 = some (.agg #[.int .i64 0, .slice none 0 0, .slice none 0 0, .bool false, .int .i64 0]) := by kernel_rfl
-- kind 57 : struct
-- struct 57 : 3 22 33 4 3
theorem places57 : placesOf Try.prog 57 = some [(0, 1), (1, 1), (2, 1), (3, 1), (4, 1)] := by kernel_rfl
theorem agg58 : isAggT Try.prog 58 = some true := by kernel_rfl
theorem sz58 : szOf Try.prog 58 = some 5 := by kernel_rfl
theorem by58 : byOf Try.prog 58 = some 72 := by kernel_rfl
theorem zero58 : zeroOf Try.prog 58 = some (.agg #[.int .i64 0, .slice none 0 0, .slice none 0 0, .bool false, .int .i64 0]) := by kernel_rfl
-- kind 58 : struct
-- struct 58 : 3 22 33 4 3
theorem places58 : placesOf Try.prog 58 = some [(0, 1), (1, 1), (2, 1), (3, 1), (4, 1)] := by kernel_rfl
theorem agg59 : isAggT Try.prog 59 = some false := by kernel_rfl
theorem sz59 : szOf Try.prog 59 = some 1 := by kernel_rfl
theorem by59 : byOf Try.prog 59 = some 8 := by kernel_rfl
theorem zero59 : zeroOf Try.prog 59 = some (.nilFunc) := by kernel_rfl
-- kind 59 : func
theorem agg60 : isAggT Try.prog 60 = some false := by kernel_rfl
theorem sz60 : szOf Try.prog 60 = some 1 := by kernel_rfl
theorem by60 : byOf Try.prog 60 = some 8 := by kernel_rfl
theorem zero60 : zeroOf Try.prog 60 = some (.nilFunc) := by kernel_rfl
-- kind 60 : func
theorem agg61 : isAggT Try.prog 61 = some false := by kernel_rfl
theorem sz61 : szOf Try.prog 61 = some 1 := by kernel_rfl
theorem by61 : byOf Try.prog 61 = some 8 := by kernel_rfl
theorem zero61 : zeroOf Try.prog 61 = some (.int .u64 0) := by kernel_rfl
-- kind 61 : int
theorem agg62 : isAggT Try.prog 62 = some false := by kernel_rfl
theorem sz62 : szOf Try.prog 62 = some 1 := by kernel_rfl
theorem by62 : byOf Try.prog 62 = some 8 := by kernel_rfl
theorem zero62 : zeroOf Try.prog 62 = some (.nilFunc) := by kernel_rfl
-- kind 62 : func
theorem agg63 : isAggT Try.prog 63 = some false := by kernel_rfl
theorem sz63 : szOf Try.prog 63 = some 1 := by kernel_rfl
theorem by63 : byOf Try.prog 63 = some 8 := by kernel_rfl
theorem zero63 : zeroOf Try.prog 63 = some (.nilFunc) := by kernel_rfl
-- kind 63 : func
theorem agg64 : isAggT Try.prog 64 = some false := by kernel_rfl
theorem sz64 : szOf Try.prog 64 = some 1 := by kernel_rfl
theorem by64 : byOf Try.prog 64 = some 8 := by kernel_rfl
theorem zero64 : zeroOf Try.prog 64 = some (.nilFunc) := by kernel_rfl
-- kind 64 : func
theorem agg65 : isAggT Try.prog 65 = some false := by kernel_rfl
theorem sz65 : szOf Try.prog 65 = some 1 := by kernel_rfl
theorem by65 : byOf Try.prog 65 = some 8 := by kernel_rfl
theorem zero65 : zeroOf Try.prog 65 = some (.nilFunc) := by kernel_rfl
-- kind 65 : func
theorem agg66 : isAggT Try.prog 66 = some false := by kernel_rfl
theorem sz66 : szOf Try.prog 66 = some 1 := by kernel_rfl
theorem by66 : byOf Try.prog 66 = some 8 := by kernel_rfl
theorem zero66 : zeroOf Try.prog 66 = some (.map none) := by kernel_rfl
theorem mapT66 : mapT Try.prog 66 = some 71 := by kernel_rfl
-- map 66 : 71
-- kind 66 : map
theorem agg67 : isAggT Try.prog 67 = some true := by kernel_rfl
theorem sz67 : szOf Try.prog 67 = some 5 := by kernel_rfl
theorem by67 : byOf Try.prog 67 = some 32 := by kernel_rfl
theorem zero67 : zeroOf Try.prog 67 = some (.agg #[.map none, .int .i64 0, .bool false, .bool false, .int .i64 0]) := by kernel_rfl
-- kind 67 : struct
-- struct 67 : 66 3 4 4 3
theorem places67 : placesOf Try.prog 67 = some [(0, 1), (1, 1), (2, 1), (3, 1), (4, 1)] := by kernel_rfl
theorem agg68 : isAggT Try.prog 68 = some true := by kernel_rfl
theorem sz68 : szOf Try.prog 68 = some 5 := by kernel_rfl
theorem by68 : byOf Try.prog 68 = some 32 := by kernel_rfl
theorem zero68 : zeroOf Try.prog 68 = some (.agg #[.map none, .int .i64 0, .bool false, .bool false, .int .i64 0]) := by kernel_rfl
-- kind 68 : struct
-- struct 68 : 66 3 4 4 3
theorem places68 : placesOf Try.prog 68 = some [(0, 1), (1, 1), (2, 1), (3, 1), (4, 1)] := by kernel_rfl
theorem agg69 : isAggT Try.prog 69 = some false := by kernel_rfl
theorem sz69 : szOf Try.prog 69 = some 1 := by kernel_rfl
theorem by69 : byOf Try.prog 69 = some 8 := by kernel_rfl
theorem zero69 : zeroOf Try.prog 69 = some (.nilFunc) := by kernel_rfl
-- kind 69 : func
theorem agg70 : isAggT Try.prog 70 = some true := by kernel_rfl
theorem sz70 : szOf Try.prog 70 = some 2 := by kernel_rfl
theorem by70 : byOf Try.prog 70 = some 32 := by kernel_rfl
theorem zero70 : zeroOf Try.prog 70 = some (.agg #[.slice none 0 0, .int .i64 0]) := by kernel_rfl
-- kind 70 : struct
-- struct 70 : 27 3
theorem places70 : placesOf Try.prog 70 = some [(0, 1), (1, 1)] := by kernel_rfl
theorem agg71 : isAggT Try.prog 71 = some true := by kernel_rfl
theorem sz71 : szOf Try.prog 71 = some 2 := by kernel_rfl
theorem by71 : byOf Try.prog 71 = some 32 := by kernel_rfl
theorem zero71 : zeroOf Try.prog 71 = some (.agg #[.slice none 0 0, .int .i64 0]) := by kernel_rfl
-- kind 71 : struct
-- struct 71 : 27 3
theorem places71 : placesOf Try.prog 71 = some [(0, 1), (1, 1)] := by kernel_rfl
theorem agg72 : isAggT Try.prog 72 = some false := by kernel_rfl
theorem sz72 : szOf Try.prog 72 = some 1 := by kernel_rfl
theorem by72 : byOf Try.prog 72 = some 8 := by kernel_rfl
theorem zero72 : zeroOf Try.prog 72 = some (.nilFunc) := by kernel_rfl
-- kind 72 : func
theorem agg73 : isAggT Try.prog 73 = some false := by kernel_rfl
theorem sz73 : szOf Try.prog 73 = some 1 := by kernel_rfl
theorem by73 : byOf Try.prog 73 = some 8 := by kernel_rfl
theorem zero73 : zeroOf Try.prog 73 = some (.nilFunc) := by kernel_rfl
-- kind 73 : func
theorem agg74 : isAggT Try.prog 74 = some false := by kernel_rfl
theorem sz74 : szOf Try.prog 74 = some 1 := by kernel_rfl
theorem by74 : byOf Try.prog 74 = some 24 := by kernel_rfl
theorem zero74 : zeroOf Try.prog 74 = some (.slice none 0 0) := by kernel_rfl
theorem elem74 : elemOf Try.prog 74 = some 76 := by kernel_rfl
theorem isrow74 : isRowT Try.prog 74 = true := by kernel_rfl
-- kind 74 : slice
theorem agg75 : isAggT Try.prog 75 = some false := by kernel_rfl
theorem sz75 : szOf Try.prog 75 = some 1 := by kernel_rfl
theorem by75 : byOf Try.prog 75 = some 8 := by kernel_rfl
theorem zero75 : zeroOf Try.prog 75 = some (.nilFunc) := by kernel_rfl
-- kind 75 : func
theorem agg76 : isAggT Try.prog 76 = some false := by kernel_rfl
theorem sz76 : szOf Try.prog 76 = some 1 := by kernel_rfl
theorem by76 : byOf Try.prog 76 = some 8 := by kernel_rfl
theorem zero76 : zeroOf Try.prog 76 = some (.pointer none) := by kernel_rfl
-- kind 76 : pointer
theorem agg77 : isAggT Try.prog 77 = some false := by kernel_rfl
theorem sz77 : szOf Try.prog 77 = some 1 := by kernel_rfl
theorem by77 : byOf Try.prog 77 = some 8 := by kernel_rfl
theorem zero77 : zeroOf Try.prog 77 = some (.int .u64 0) := by kernel_rfl
-- kind 77 : int
theorem agg78 : isAggT Try.prog 78 = some false := by kernel_rfl
theorem sz78 : szOf Try.prog 78 = some 1 := by kernel_rfl
theorem by78 : byOf Try.prog 78 = some 8 := by kernel_rfl
theorem zero78 : zeroOf Try.prog 78 = some (.nilFunc) := by kernel_rfl
-- kind 78 : func
theorem agg79 : isAggT Try.prog 79 = some false := by kernel_rfl
theorem sz79 : szOf Try.prog 79 = some 1 := by kernel_rfl
theorem by79 : byOf Try.prog 79 = some 8 := by kernel_rfl
theorem zero79 : zeroOf Try.prog 79 = some (.nilFunc) := by kernel_rfl
-- kind 79 : func
theorem agg80 : isAggT Try.prog 80 = some false := by kernel_rfl
theorem sz80 : szOf Try.prog 80 = some 1 := by kernel_rfl
theorem by80 : byOf Try.prog 80 = some 8 := by kernel_rfl
theorem zero80 : zeroOf Try.prog 80 = some (.nilFunc) := by kernel_rfl
-- kind 80 : func
theorem agg81 : isAggT Try.prog 81 = some false := by kernel_rfl
theorem sz81 : szOf Try.prog 81 = some 1 := by kernel_rfl
theorem by81 : byOf Try.prog 81 = some 8 := by kernel_rfl
theorem zero81 : zeroOf Try.prog 81 = some (.nilFunc) := by kernel_rfl
-- kind 81 : func
theorem agg82 : isAggT Try.prog 82 = some false := by kernel_rfl
theorem sz82 : szOf Try.prog 82 = some 1 := by kernel_rfl
theorem by82 : byOf Try.prog 82 = some 8 := by kernel_rfl
theorem zero82 : zeroOf Try.prog 82 = some (.nilFunc) := by kernel_rfl
-- kind 82 : func
theorem agg83 : isAggT Try.prog 83 = some false := by kernel_rfl
theorem sz83 : szOf Try.prog 83 = some 1 := by kernel_rfl
theorem by83 : byOf Try.prog 83 = some 8 := by kernel_rfl
theorem zero83 : zeroOf Try.prog 83 = some (.nilFunc) := by kernel_rfl
-- kind 83 : func
theorem agg84 : isAggT Try.prog 84 = some false := by kernel_rfl
theorem sz84 : szOf Try.prog 84 = some 1 := by kernel_rfl
theorem by84 : byOf Try.prog 84 = some 8 := by kernel_rfl
theorem zero84 : zeroOf Try.prog 84 = some (.nilFunc) := by kernel_rfl
-- kind 84 : func
theorem agg85 : isAggT Try.prog 85 = some false := by kernel_rfl
theorem sz85 : szOf Try.prog 85 = some 1 := by kernel_rfl
theorem by85 : byOf Try.prog 85 = some 8 := by kernel_rfl
theorem zero85 : zeroOf Try.prog 85 = some (.nilFunc) := by kernel_rfl
-- kind 85 : func
theorem agg86 : isAggT Try.prog 86 = some false := by kernel_rfl
theorem sz86 : szOf Try.prog 86 = some 1 := by kernel_rfl
theorem by86 : byOf Try.prog 86 = some 8 := by kernel_rfl
theorem zero86 : zeroOf Try.prog 86 = some (.nilFunc) := by kernel_rfl
-- kind 86 : func
theorem agg87 : isAggT Try.prog 87 = some false := by kernel_rfl
theorem sz87 : szOf Try.prog 87 = some 1 := by kernel_rfl
theorem by87 : byOf Try.prog 87 = some 8 := by kernel_rfl
theorem zero87 : zeroOf Try.prog 87 = some (.nilFunc) := by kernel_rfl
-- kind 87 : func
theorem agg88 : isAggT Try.prog 88 = some false := by kernel_rfl
theorem sz88 : szOf Try.prog 88 = some 1 := by kernel_rfl
theorem by88 : byOf Try.prog 88 = some 8 := by kernel_rfl
theorem zero88 : zeroOf Try.prog 88 = some (.nilFunc) := by kernel_rfl
-- kind 88 : func
theorem agg89 : isAggT Try.prog 89 = some false := by kernel_rfl
theorem sz89 : szOf Try.prog 89 = some 1 := by kernel_rfl
theorem by89 : byOf Try.prog 89 = some 8 := by kernel_rfl
theorem zero89 : zeroOf Try.prog 89 = some (.nilFunc) := by kernel_rfl
-- kind 89 : func
theorem agg90 : isAggT Try.prog 90 = some false := by kernel_rfl
theorem sz90 : szOf Try.prog 90 = some 1 := by kernel_rfl
theorem by90 : byOf Try.prog 90 = some 8 := by kernel_rfl
theorem zero90 : zeroOf Try.prog 90 = some (.nilFunc) := by kernel_rfl
-- kind 90 : func
theorem agg91 : isAggT Try.prog 91 = some false := by kernel_rfl
theorem sz91 : szOf Try.prog 91 = some 1 := by kernel_rfl
theorem by91 : byOf Try.prog 91 = some 8 := by kernel_rfl
theorem zero91 : zeroOf Try.prog 91 = some (.nilFunc) := by kernel_rfl
-- kind 91 : func
theorem agg92 : isAggT Try.prog 92 = some false := by kernel_rfl
theorem sz92 : szOf Try.prog 92 = some 1 := by kernel_rfl
theorem by92 : byOf Try.prog 92 = some 8 := by kernel_rfl
theorem zero92 : zeroOf Try.prog 92 = some (.nilFunc) := by kernel_rfl
-- kind 92 : func
theorem agg93 : isAggT Try.prog 93 = some false := by kernel_rfl
theorem sz93 : szOf Try.prog 93 = some 1 := by kernel_rfl
theorem by93 : byOf Try.prog 93 = some 8 := by kernel_rfl
theorem zero93 : zeroOf Try.prog 93 = some (.nilFunc) := by kernel_rfl
-- kind 93 : func
theorem agg94 : isAggT Try.prog 94 = some false := by kernel_rfl
theorem sz94 : szOf Try.prog 94 = some 1 := by kernel_rfl
theorem by94 : byOf Try.prog 94 = some 8 := by kernel_rfl
theorem zero94 : zeroOf Try.prog 94 = some (.nilFunc) := by kernel_rfl
-- kind 94 : func
theorem agg95 : isAggT Try.prog 95 = some false := by kernel_rfl
theorem sz95 : szOf Try.prog 95 = some 1 := by kernel_rfl
theorem by95 : byOf Try.prog 95 = some 8 := by kernel_rfl
theorem zero95 : zeroOf Try.prog 95 = some (.nilFunc) := by kernel_rfl
-- kind 95 : func
theorem agg96 : isAggT Try.prog 96 = some false := by kernel_rfl
theorem sz96 : szOf Try.prog 96 = some 1 := by kernel_rfl
theorem by96 : byOf Try.prog 96 = some 8 := by kernel_rfl
theorem zero96 : zeroOf Try.prog 96 = some (.nilFunc) := by kernel_rfl
-- kind 96 : func
theorem agg97 : isAggT Try.prog 97 = some false := by kernel_rfl
theorem sz97 : szOf Try.prog 97 = some 1 := by kernel_rfl
theorem by97 : byOf Try.prog 97 = some 8 := by kernel_rfl
theorem zero97 : zeroOf Try.prog 97 = some (.int .i64 0) := by kernel_rfl
-- kind 97 : int
theorem agg99 : isAggT Try.prog 99 = some false := by kernel_rfl
theorem sz99 : szOf Try.prog 99 = some 1 := by kernel_rfl
theorem by99 : byOf Try.prog 99 = some 8 := by kernel_rfl
theorem zero99 : zeroOf Try.prog 99 = some (.nilFunc) := by kernel_rfl
-- kind 99 : func
theorem agg100 : isAggT Try.prog 100 = some false := by kernel_rfl
theorem sz100 : szOf Try.prog 100 = some 1 := by kernel_rfl
theorem by100 : byOf Try.prog 100 = some 8 := by kernel_rfl
theorem zero100 : zeroOf Try.prog 100 = some (.nilFunc) := by kernel_rfl
-- kind 100 : func
theorem agg101 : isAggT Try.prog 101 = some false := by kernel_rfl
theorem sz101 : szOf Try.prog 101 = some 1 := by kernel_rfl
theorem by101 : byOf Try.prog 101 = some 8 := by kernel_rfl
theorem zero101 : zeroOf Try.prog 101 = some (.nilFunc) := by kernel_rfl
-- kind 101 : func
theorem agg102 : isAggT Try.prog 102 = some false := by kernel_rfl
theorem sz102 : szOf Try.prog 102 = some 1 := by kernel_rfl
theorem by102 : byOf Try.prog 102 = some 8 := by kernel_rfl
theorem zero102 : zeroOf Try.prog 102 = some (.nilFunc) := by kernel_rfl
-- kind 102 : func
theorem agg104 : isAggT Try.prog 104 = some false := by kernel_rfl
theorem sz104 : szOf Try.prog 104 = some 1 := by kernel_rfl
theorem by104 : byOf Try.prog 104 = some 8 := by kernel_rfl
theorem zero104 : zeroOf Try.prog 104 = some (.nilFunc) := by kernel_rfl
-- kind 104 : func
theorem agg105 : isAggT Try.prog 105 = some false := by kernel_rfl
theorem sz105 : szOf Try.prog 105 = some 1 := by kernel_rfl
theorem by105 : byOf Try.prog 105 = some 8 := by kernel_rfl
theorem zero105 : zeroOf Try.prog 105 = some (.nilFunc) := by kernel_rfl
-- kind 105 : func
theorem agg106 : isAggT Try.prog 106 = some false := by kernel_rfl
theorem sz106 : szOf Try.prog 106 = some 1 := by kernel_rfl
theorem by106 : byOf Try.prog 106 = some 4 := by kernel_rfl
theorem zero106 : zeroOf Try.prog 106 = some (.int .u32 0) := by kernel_rfl
-- kind 106 : int
theorem agg107 : isAggT Try.prog 107 = some false := by kernel_rfl
theorem sz107 : szOf Try.prog 107 = some 1 := by kernel_rfl
theorem by107 : byOf Try.prog 107 = some 8 := by kernel_rfl
theorem zero107 : zeroOf Try.prog 107 = some (.nilFunc) := by kernel_rfl
-- kind 107 : func
theorem agg108 : isAggT Try.prog 108 = some false := by kernel_rfl
theorem sz108 : szOf Try.prog 108 = some 1 := by kernel_rfl
theorem by108 : byOf Try.prog 108 = some 8 := by kernel_rfl
theorem zero108 : zeroOf Try.prog 108 = some (.int .u64 0) := by kernel_rfl
-- kind 108 : int
theorem agg109 : isAggT Try.prog 109 = some false := by kernel_rfl
theorem sz109 : szOf Try.prog 109 = some 1 := by kernel_rfl
theorem by109 : byOf Try.prog 109 = some 8 := by kernel_rfl
theorem zero109 : zeroOf Try.prog 109 = some (.nilFunc) := by kernel_rfl
-- kind 109 : func
theorem agg110 : isAggT Try.prog 110 = some false := by kernel_rfl
theorem sz110 : szOf Try.prog 110 = some 1 := by kernel_rfl
theorem by110 : byOf Try.prog 110 = some 8 := by kernel_rfl
theorem zero110 : zeroOf Try.prog 110 = some (.nilFunc) := by kernel_rfl
-- kind 110 : func
theorem agg111 : isAggT Try.prog 111 = some false := by kernel_rfl
theorem sz111 : szOf Try.prog 111 = some 1 := by kernel_rfl
theorem by111 : byOf Try.prog 111 = some 8 := by kernel_rfl
theorem zero111 : zeroOf Try.prog 111 = some (.nilFunc) := by kernel_rfl
-- kind 111 : func

end Go.Proofs.Ytahaplbdhgfobaa.Eng

set_option linter.unusedVariables false
set_option linter.unusedSimpArgs false
set_option maxRecDepth 4000
namespace Go.Proofs.Ytahaplbdhgfobaa.Eng

/-! ### Disks -/
abbrev dObj (bm : Nat) (room : Int) (off armed : Bool) (left : Int) : List Value := [Mp bm, I room, .bool off, .bool armed, I left]
abbrev fileV (a : Option Addr) (n c : Nat) (d : Int) : Value := .agg #[.slice a n c, I d]
def IsFile (v : Value) : Prop := ∃ a n c d, v = fileV a n c d
def flen (v : Value) : Int := match v with
  | .agg cs => match cs.toList with
    | .slice _ n _ :: _ => (n : Int)
    | _ => 0
  | _ => 0
theorem flen_file (a : Option Addr) (n c : Nat) (d : Int) : flen (fileV a n c d) = n := rfl

def lens : List (Int × Nat × Value) → Int
  | [] => 0
  | e :: l => flen e.2.2 + lens l
def seenLens (seen : List Nat) : List (Int × Nat × Value) → Int
  | [] => 0
  | e :: l => (if e.2.1 ∈ seen then flen e.2.2 else 0) + seenLens seen l

theorem flen_nn {v : Value} (h : IsFile v) : 0 ≤ flen v := by
  obtain ⟨a, n, c, d, rfl⟩ := h
  rw [flen_file]; omega

theorem seen_bounds {seen : List Nat} : ∀ {l : List (Int × Nat × Value)}, (∀ e ∈ l, IsFile e.2.2) → 0 ≤ seenLens seen l ∧ seenLens seen l ≤ lens l
  | [], _ => ⟨Int.le_refl _, Int.le_refl _⟩
  | e :: l, h => by
    have h1 := flen_nn (h e (List.mem_cons_self ..))
    have := seen_bounds (seen := seen) (fun e' he => h e' (List.mem_cons_of_mem _ he))
    simp only [seenLens, lens]
    split <;> omega

theorem seen_all {seen : List Nat} : ∀ {l : List (Int × Nat × Value)}, (∀ e ∈ l, e.2.1 ∈ seen) → seenLens seen l = lens l
  | [], _ => rfl
  | e :: l, h => by
    simp only [seenLens, lens]
    rw [if_pos (h e (List.mem_cons_self ..)), seen_all fun e' he => h e' (List.mem_cons_of_mem _ he)]

theorem seen_none : ∀ l : List (Int × Nat × Value), seenLens [] l = 0
  | [] => rfl
  | e :: l => by
    simp only [seenLens]
    rw [if_neg (by simp), seen_none l]; rfl

theorem seen_old {seen : List Nat} {n : Nat} : ∀ {l : List (Int × Nat × Value)}, n ∉ l.map (·.2.1) → seenLens (n :: seen) l = seenLens seen l
  | [], _ => rfl
  | e :: l, h => by
    simp only [List.map_cons, List.mem_cons, not_or] at h
    simp only [seenLens, List.mem_cons]
    rw [seen_old h.2]
    have : (e.2.1 = n ∨ e.2.1 ∈ seen) ↔ e.2.1 ∈ seen := ⟨fun q => q.resolve_left fun q => h.1 q.symm, .inr⟩
    simp only [this]

theorem seen_more {seen : List Nat} {k : Int} {n : Nat} {v : Value} (hn : n ∉ seen) : ∀ {l : List (Int × Nat × Value)}, (l.map (·.2.1)).Nodup → (k, n, v) ∈ l → seenLens (n :: seen) l = seenLens seen l + flen v
  | e :: l, hd, hm => by
    simp only [List.map_cons, List.nodup_cons] at hd
    rcases List.mem_cons.1 hm with rfl | hm
    · simp only [seenLens]
      rw [seen_old hd.1, if_pos (by simp), if_neg hn]
      omega
    · have hne : e.2.1 ≠ n := fun q => hd.1 (List.mem_map.2 ⟨_, hm, q.symm⟩)
      simp only [seenLens, List.mem_cons]
      rw [seen_more hn hd.2 hm]
      have : (e.2.1 = n ∨ e.2.1 ∈ seen) ↔ e.2.1 ∈ seen := ⟨fun q => q.resolve_left hne, .inr⟩
      simp only [this]
      omega

theorem Is.ne {h : AHeap} {a b : Nat} {x y : Ent} (h1 : Is h a x) (h2 : Is h b y) (hne : x.sz ≠ y.sz) : a ≠ b := by
  intro e
  subst e
  obtain ⟨f, k, e1⟩ := h1
  obtain ⟨g, l, e2⟩ := h2
  rw [e1] at e2
  injection e2 with e2
  exact hne e2

theorem sat2 {h : AHeap} {a b : Nat} {x y : Ent} (hw : WF h) (h1 : Is h a x) (h2 : Is h b y) (hne : x.sz ≠ y.sz) : Sat h [(a, x), (b, y)] :=
  ⟨by simpa using h1.ne h2 hne, fun p hp => by
    simp only [List.mem_cons, List.not_mem_nil, or_false] at hp
    rcases hp with rfl | rfl
    · exact h1
    · exact h2, hw⟩

abbrev dO (d bm : Nat) (r1 r2 : Bool) (room : Int) (off armed : Bool) (lft : Int) (mx : MapX) : Objs := [(d, ⟨0, r1, dObj bm room off armed lft⟩), (bm, ⟨2, r2, mcells mx⟩)]

theorem used_sem {h : AHeap} {d bm : Nat} {ro1 ro2 off armed : Bool} {room lft : Int} {mx : MapX} (h1 : Is h d ⟨0, ro1, dObj bm room off armed lft⟩) (h2 : Is h bm ⟨2, ro2, mcells mx⟩) (hf : ∀ e ∈ mx.es, IsFile e.2.2) (ht : lens mx.es ≤ 4611686018427387904) :
    ∀ ρ, CallSem Try.prog ρ 21 #[Ptr d 0] h (I (lens mx.es)) h := by
  have hm : Try.prog.follows .mixedOrders = true := Checked.mixed Try.checked
  refine callSem_of Try.func21 rfl ?_
  intro base ι w a hs hd
  have hr1 : HRel base ι h w := hs.heap
  obtain ⟨g, hg⟩ : ∃ g, g = h.rox fun _ => true := ⟨_, rfl⟩
  have hr0 : HRel base ι g w := by rw [hg]; exact hr1.rox _
  have i1 : Is g d ⟨0, true, dObj bm room off armed lft⟩ := by rw [hg]; exact h1.rox _
  have i2 : Is g bm ⟨2, true, mcells mx⟩ := by rw [hg]; exact h2.rox _
  have hat : At ⟨21, false, h, .late⟩ (argsL [Ptr d 0] 0) (dO d bm true true room off armed lft mx) base ι g w [] a w :=
    ⟨ι, enterA Try.f21 #[Ptr d 0] g, ⟨rfl, has_args _ 0 fun j v hj => by simp [enterA, Array.getD_eq_getD_getElem?, hj], sat2 hr0.heapWF i1 i2 (by intro q; cases q), fun q => by cases q⟩, ⟨hs.size, hs.tmps, hr0, hs.base⟩, More.refl hr0, KeepsBy.zero (Keeps.refl ι _ w), hd, Stay.refl _⟩
  refine At.seq (L1 := [(2, I 0), (0, Ptr d 0)]) (O1 := dO d bm true true room off armed lft mx) hm hr0 hat rfl (show codeOk 21 _ = true by decide +kernel) ?_ (fun a1 w1 hat1 => ?_)
  refine WX.region rfl ?_
  refine WXL.assign Met.none rfl ?_
  refine WXL.nilK ?_
  exact fun s hs => ⟨rfl, hs.tl [0, 1] 2⟩
  refine At.seq (L1 := [(3, I 0), (2, I 0), (0, Ptr d 0)]) (O1 := dO d bm true true room off armed lft mx) hm hr0 hat1 rfl (show codeOk 21 _ = true by decide +kernel) ?_ (fun a2 w2 hat2 => ?_)
  refine WX.region rfl ?_
  refine WXL.assign Met.none rfl ?_
  refine WXL.nilK ?_
  exact fun s hs => ⟨rfl, hs.tl [0, 1] 2⟩
  refine wpIn_seq (At.range (L1 := [(9, Mp bm), (3, I 0), (0, Ptr d 0)]) (O1 := dO d bm true true room off armed lft mx) hm hr0 hat2 (fun br (acc : Int) => [(3, I acc), (10, Ptr br 0)]) (fun _ => (dO d bm true true room off armed lft mx)) (fun mx' seen acc => mx' = mx ∧ (stamps mx).Nodup ∧ acc = seenLens seen mx.es) (y := .tmp 9) (it := 10) (tn := 11) (tk := 12) (te := 13) (bm := bm) (y0 := 0) (mx := mx) rfl rfl 4 rfl rfl (show regOk _ 21 = true by decide +kernel) ?_ Try.underlying66 rfl rfl (Knows.at 1 rfl) (show 10 < 21 by decide) rfl (show regOk _ 21 = true by decide +kernel) (show codeOk 21 _ = true by decide +kernel) (show 11 < 21 by decide) (show 12 < 21 by decide) (show 13 < 21 by decide) rfl
    (fun _ _ _ _ _ => rfl) (fun mx' seen y h => ⟨2, true, by rw [h.1]; exact Knows.at 1 rfl⟩) ?_ (fun hn => ⟨rfl, hn, (seen_none _).symm⟩) (fun br s hs => hs.tl [0, 1] 2) ?_)
  · skip
    refine WXL.move Met.none rfl ?_
    refine WXL.nilCheck Met.none rfl ?_
    first | refine WXL.fieldAddr Met.none rfl Try.underlying68 rfl sz66 rfl ?_ | refine WXL.faS Met.none rfl Try.underlying68 rfl sz66 ?_
    first | refine WXL.ld Met.none rfl agg66 ?_ | refine WXL.ldS Met.none rfl agg66 ?_
    refine WXL.nilK ?_
    exact (fun s hs => hs.tl [0, 1] 2)
  · intro br mx' seen acc k n v ⟨h3, h4, h5⟩ h6 h7
    subst h3
    obtain ⟨fa, fn, fc, fd, rfl⟩ := hf _ h6
    have hb := seen_bounds (seen := n :: seen) hf
    have hb2 := seen_bounds (seen := seen) hf
    have hmore := seen_more h7 h4 h6
    rw [flen_file] at hmore
    refine WXL.extract Met.none rfl rfl ?_
    refine WXL.alloc (c := [_, _]) Met.none zero71 rfl (fun b5 => ?_)
    refine WXL.st (vs := [_, _]) (c' := [_, _]) Met.none rfl rfl rfl sz71 ?_
    refine WXL.nilK ?_
    refine (show WX _ ⟨21, false, h, .late⟩ _ _ _ _ from ?_)
    refine WX.region rfl ?_
    refine WXL.move Met.none rfl ?_
    refine WXL.fieldAddr (off' := 0) Met.none rfl Try.underlying71 rfl sz27 rfl ?_
    first | refine WXL.ld Met.none rfl agg27 ?_ | refine WXL.ldS Met.none rfl agg27 ?_
    refine WXL.len Met.none rfl Try.underlying27 ?_
    refine WXL.bin Met.none rfl rfl bvA ?_
    refine WXL.assign Met.none rfl ?_
    refine WXL.nilK ?_
    exact fun s hs => ⟨rfl, mx', acc + fn, ⟨rfl, h4, by omega⟩, rfl, rfl, hs.tl [1, 2] 3⟩
  · intro br mx' seen acc a3 w3 ⟨h3, h4, h5⟩ h6 hat3
    subst h3
    rw [seen_all h6] at h5
    subst h5
    refine At.seq (L1 := [(2, I (lens mx'.es))]) (O1 := dO d bm true true room off armed lft mx') hm hr0 hat3 rfl (show codeOk 21 _ = true by decide +kernel) ?_ (fun a4 w4 hat4 => ?_)
    refine WX.region rfl ?_
    refine WXL.move Met.none rfl ?_
    refine WXL.assign Met.none rfl ?_
    refine WXL.nilK ?_
    exact fun s hs => ⟨rfl, hs.tl [0, 1] 2⟩
    refine wpIn_ret ⟨.inr rfl, ?_⟩
    obtain ⟨ι4, s4, g1, g2, g3, g4, g5, g6⟩ := hat4
    have hold : ∀ b, b < h.n → s4.h.o b = g.o b := fun b hb => g6.2 b (by rw [hg]; exact hb) (by rw [hg]; show isRo (mkro (h.o b)) = true; cases h.o b <;> rfl)
    have hblk : ∀ B, B < w.heap.size → w4.heap[B]? = w.heap[B]? := fun B hB => g4.block B hB fun b e q1 q2 => .inl (hold b (hr1.lt b e q1))
    have hres : resultsA Try.prog Try.f21 s4 = some [I (lens mx'.es)] := by
      unfold resultsA
      exact g1.t.res (rs := [.tmp 2]) rfl
    obtain ⟨v', hrun, hrel⟩ := results_run (P := Try.prog) g2 hres
    obtain rfl := hrel.plain rfl
    exact ⟨g5, ι, _, hrun, More.refl hr1, .atom rfl, hr1.pre g4.size hblk, Keep0.grow g4.os g4.tape g4.output g4.size hblk⟩

theorem used_direct {h : AHeap} {d bm : Nat} {ro1 ro2 off armed : Bool} {room lft : Int} {mx : MapX} (h1 : Is h d ⟨0, ro1, dObj bm room off armed lft⟩) (h2 : Is h bm ⟨2, ro2, mcells mx⟩) (hf : ∀ e ∈ mx.es, IsFile e.2.2) (ht : lens mx.es ≤ 4611686018427387904) :
    Direct Try.prog 21 #[Ptr d 0] h (I (lens mx.es)) h :=
  ⟨.inl rfl, fun F ρ => by
    obtain ⟨f1, k1, e1⟩ := h1
    obtain ⟨f2, k2, e2⟩ := h2
    obtain ⟨r1, q1⟩ := un_cells (F := F) e1
    obtain ⟨r2, q2⟩ := un_cells (F := F) e2
    exact used_sem (ro1 := r1) (ro2 := r2) (off := off) (armed := armed) (room := room) (lft := lft) (bm := bm) ⟨f1, k1, q1⟩ ⟨f2, k2, q2⟩ hf ht ρ⟩

end Go.Proofs.Ytahaplbdhgfobaa.Eng

set_option linter.unusedVariables false
set_option linter.unusedSimpArgs false
set_option maxRecDepth 4000
namespace Go.Proofs.Ytahaplbdhgfobaa.Eng

def hard (v : Value) : Value := match v with
  | .agg cs => match cs.toList with
    | .slice a n c :: _ => fileV a n c n
    | _ => v
  | _ => v
theorem hard_file (a : Option Addr) (n c : Nat) (d : Int) : hard (fileV a n c d) = fileV a n c n := rfl

def updE (seen : List Nat) (e : Int × Nat × Value) : Int × Nat × Value := if e.2.1 ∈ seen then (e.1, e.2.1, hard e.2.2) else e
def upd (mx : MapX) (seen : List Nat) : MapX := ⟨mx.ck, mx.es.map (updE seen)⟩
def MapX.hard (mx : MapX) : MapX := ⟨mx.ck, mx.es.map fun e => (e.1, e.2.1, Eng.hard e.2.2)⟩

theorem updE_none (e : Int × Nat × Value) : updE [] e = e := by unfold updE; rw [if_neg (by simp)]
theorem upd_none (mx : MapX) : upd mx [] = mx := by
  obtain ⟨ck, es⟩ := mx
  unfold upd
  rw [show updE [] = id from funext updE_none, List.map_id]
theorem updE_stamp (seen : List Nat) (e : Int × Nat × Value) : (updE seen e).2.1 = e.2.1 ∧ (updE seen e).1 = e.1 := by
  unfold updE
  split <;> exact ⟨rfl, rfl⟩
theorem upd_stamps (mx : MapX) (seen : List Nat) : stamps (upd mx seen) = stamps mx := by
  unfold stamps upd
  rw [List.map_map]
  exact List.map_congr_left fun e _ => (updE_stamp seen e).1
theorem upd_all {mx : MapX} {seen : List Nat} (h : ∀ e ∈ (upd mx seen).es, e.2.1 ∈ seen) : upd mx seen = mx.hard := by
  unfold upd MapX.hard
  congr 1
  refine List.map_congr_left fun e he => ?_
  have := h (updE seen e) (List.mem_map.2 ⟨e, he, rfl⟩)
  rw [(updE_stamp seen e).1] at this
  unfold updE
  rw [if_pos this]

theorem updE_other {seen : List Nat} {n : Nat} {e : Int × Nat × Value} (h : e.2.1 ≠ n) : updE (n :: seen) e = updE seen e := by
  unfold updE
  have : (e.2.1 ∈ n :: seen) ↔ e.2.1 ∈ seen := ⟨fun q => (List.mem_cons.1 q).resolve_left h, fun q => List.mem_cons_of_mem _ q⟩
  simp only [this]

theorem xput_upd {seen : List Nat} {k : Int} {n : Nat} {v : Value} (hn : n ∉ seen) (ck : Nat) : ∀ {l : List (Int × Nat × Value)}, (l.map (·.1)).Nodup → (l.map (·.2.1)).Nodup → (k, n, v) ∈ l → xput k (hard v) ck (l.map (updE seen)) = (ck, l.map (updE (n :: seen)))
  | e :: l, h1, h2, hm => by
    simp only [List.map_cons, List.nodup_cons] at h1 h2
    rcases List.mem_cons.1 hm with rfl | hm
    · have e1 : updE seen (k, n, v) = (k, n, v) := by unfold updE; rw [if_neg hn]
      have e2 : updE (n :: seen) (k, n, v) = (k, n, hard v) := by unfold updE; rw [if_pos (by simp)]
      have e3 : l.map (updE (n :: seen)) = l.map (updE seen) := List.map_congr_left fun e he => updE_other fun q => h2.1 (List.mem_map.2 ⟨e, he, q⟩)
      rw [List.map_cons, List.map_cons, e1, e2, e3]
      show (if k = k then _ else _) = _
      rw [if_pos rfl]
    · have n1 : k ≠ e.1 := fun q => h1.1 (List.mem_map.2 ⟨_, hm, q⟩)
      have n2 : e.2.1 ≠ n := fun q => h2.1 (List.mem_map.2 ⟨_, hm, q.symm⟩)
      rw [List.map_cons, List.map_cons, updE_other n2]
      obtain ⟨⟨ek, en, ev⟩, hE⟩ : ∃ p, updE seen e = p := ⟨_, rfl⟩
      rw [hE]
      have : ek = e.1 := by have := (updE_stamp seen e).2; rw [hE] at this; exact this
      show (if k = ek then _ else _) = _
      rw [if_neg (by rw [this]; exact n1), xput_upd hn ck h1.2 h2.2 hm]

theorem upd_mem {mx : MapX} {seen : List Nat} {k : Int} {n : Nat} {v : Value} (h : (k, n, v) ∈ (upd mx seen).es) (hn : n ∉ seen) : (k, n, v) ∈ mx.es := by
  obtain ⟨e, he, q⟩ := List.mem_map.1 h
  have h1 := (updE_stamp seen e).1
  rw [q] at h1
  have : updE seen e = e := by unfold updE; rw [if_neg (by rw [← h1]; exact hn)]
  rw [← q, this]; exact he

theorem upd_put {mx : MapX} {seen : List Nat} {k : Int} {n : Nat} {v : Value} (h1 : (mx.es.map (·.1)).Nodup) (h2 : (stamps mx).Nodup) (hm : (k, n, v) ∈ mx.es) (hn : n ∉ seen) : (upd mx seen).put k (hard v) = upd mx (n :: seen) := by
  unfold MapX.put upd
  simp only
  rw [xput_upd hn mx.ck h1 h2 hm]

theorem pair_back {ι ι4 : Lay} : ∀ {l : List (Int × Nat × Value)} {es : List MapEntry}, PairRel ι4 (mflat l) es → (∀ e ∈ l, ∀ u, VRel ι4 e.2.2 u → VRel ι e.2.2 u) → PairRel ι (mflat l) es := by
  intro l
  induction l with
  | nil => intro es hp _; cases hp; exact .nil
  | cons p c ih =>
    obtain ⟨k, n, v⟩ := p
    intro es hp hv
    unfold mflat at hp ⊢
    generalize hX : I k :: I n :: v :: mflat c = X at hp
    cases hp with
    | nil => cases hX
    | cons h1 h2 h3 h4 =>
      rename_i c3 e2 es2
      injection hX with q1 q2
      injection q2 with q3 q4
      injection q4 with q5 q6
      subst q1 q5 q6
      have q3' := q3
      injection q3' with _ q3'
      exact .cons h1 h2 (hv _ (List.mem_cons_self ..) _ h3) (ih h4 fun e he => hv e (List.mem_cons_of_mem _ he))

theorem pair_vals {ι : Lay} : ∀ {l : List (Int × Nat × Value)} {es : List MapEntry}, PairRel ι (mflat l) es → ∀ e ∈ l, ∃ u, VRel ι e.2.2 u := by
  intro l
  induction l with
  | nil => intro es hp e he; simp at he
  | cons p c ih =>
    obtain ⟨k, n, v⟩ := p
    intro es hp e he
    unfold mflat at hp
    generalize hX : I k :: I n :: v :: mflat c = X at hp
    cases hp with
    | nil => cases hX
    | cons h1 h2 h3 h4 =>
      rename_i c3 e2 es2
      injection hX with q1 q2
      injection q2 with q3 q4
      injection q4 with q5 q6
      subst q1 q5 q6
      rcases List.mem_cons.1 he with rfl | he
      · exact ⟨_, h3⟩
      · exact ih h4 e he

/-- A file's value names nothing new. -/
theorem file_back {ι ι4 : Lay} {a : Option Addr} {n c : Nat} {d d' : Int} {u u' : Value} (hb : ∀ b e, ι b = some e → ι4 b = some e) (h0 : VRel ι (fileV a n c d) u) (h4 : VRel ι4 (fileV a n c d') u') : VRel ι (fileV a n c d') u' := by
  have hs : ∃ x, VRel ι (.slice a n c) x := by
    cases h0 with
    | atom q => simp [plain1] at q
    | agg q1 q2 =>
      rename_i ys
      exact ⟨ys[0]'(by rw [← q1]; exact Nat.succ_pos _), q2 0 _ _ rfl (Array.getElem?_eq_getElem _)⟩
  cases h4 with
  | atom q => simp [plain1] at q
  | agg q1 q2 =>
    refine .agg q1 fun i v v' hv hv' => ?_
    have h := q2 i v v' hv hv'
    rcases i with _ | _ | i
    · simp at hv
      subst hv
      obtain ⟨x, hx⟩ := hs
      cases h with
      | atom q => exact .atom q
      | slice p1 p2 p3 p4 =>
        cases hx with
        | atom q => simp [plain1] at q
        | slice r1 _ _ _ => rw [hb _ _ r1] at p1; obtain rfl := Option.some.inj p1; exact .slice r1 p2 p3 p4
        | slice0 r1 _ => rw [hb _ _ r1] at p1; obtain rfl := Option.some.inj p1; exact .slice r1 p2 p3 p4
      | slice0 p1 p2 =>
        cases hx with
        | atom q => simp [plain1] at q
        | slice r1 _ _ _ => rw [hb _ _ r1] at p1; obtain rfl := Option.some.inj p1; exact .slice0 r1 p2
        | slice0 r1 _ => rw [hb _ _ r1] at p1; obtain rfl := Option.some.inj p1; exact .slice0 r1 p2
    · simp at hv; subst hv; rw [h.plain rfl]; exact .atom rfl
    · simp at hv

theorem beq_ne {a b : Nat} (h : a ≠ b) : Nat.beq a b = false := by
  cases hq : Nat.beq a b with
  | false => rfl
  | true => exact absurd (Nat.eq_of_beq_eq_true hq) h

theorem harden_sem {h : AHeap} {d bm : Nat} {ro1 off armed : Bool} {room lft : Int} {mx : MapX} {f k : Nat} (h1 : Is h d ⟨0, ro1, dObj bm room off armed lft⟩) (h2 : h.o bm = .cells 2 false f none k (mcells mx)) (hf : ∀ e ∈ mx.es, IsFile e.2.2) (hk : (mx.es.map (·.1)).Nodup) :
    ∀ ρ, CallSem Try.prog ρ 40 #[Ptr d 0] h (.tuple #[]) (h.set bm (.cells 2 false f none (k + 1) (mcells mx.hard))) := by
  have hm : Try.prog.follows .mixedOrders = true := Checked.mixed Try.checked
  refine callSem_of Try.func40 rfl ?_
  intro base ι w a hs hd
  have hr1 : HRel base ι h w := hs.heap
  have h2i : Is h bm ⟨2, false, mcells mx⟩ := ⟨f, k, h2⟩
  have hdb : d ≠ bm := h1.ne h2i (by intro q; cases q)
  obtain ⟨g, hg⟩ : ∃ g, g = h.rox fun b => !(Nat.beq b bm) := ⟨_, rfl⟩
  have hr0 : HRel base ι g w := by rw [hg]; exact hr1.rox _
  have i1 : Is g d ⟨0, true, dObj bm room off armed lft⟩ := by
    rw [hg]
    have := h1.rox fun b => !(Nat.beq b bm)
    rw [show (!(Nat.beq d bm)) = true by rw [beq_ne hdb]; rfl] at this
    exact this
  have i2 : Is g bm ⟨2, false, mcells mx⟩ := by
    rw [hg]
    have := h2i.rox fun b => !(Nat.beq b bm)
    rw [show (!(Nat.beq bm bm)) = false by simp] at this
    exact this
  have hat : At ⟨25, false, h, .late⟩ (argsL [Ptr d 0] 0) (dO d bm true false room off armed lft mx) base ι g w [] a w :=
    ⟨ι, enterA Try.f40 #[Ptr d 0] g, ⟨rfl, has_args _ 0 fun j v hj => by simp [enterA, Array.getD_eq_getD_getElem?, hj], sat2 hr0.heapWF i1 i2 (by intro q; cases q), fun q => by cases q⟩, ⟨hs.size, hs.tmps, hr0, hs.base⟩, More.refl hr0, KeepsBy.zero (Keeps.refl ι _ w), hd, Stay.refl _⟩
  refine At.range (L1 := [(7, Mp bm), (0, Ptr d 0)]) (O1 := dO d bm true false room off armed lft mx) hm hr0 hat (fun br (sn : List Nat) => [(0, Ptr d 0), (8, Ptr br 0)]) (fun sn => dO d bm true false room off armed lft (upd mx sn)) (fun mx' seen sn => mx' = upd mx seen ∧ (stamps mx).Nodup ∧ sn = seen) (y := .tmp 7) (it := 8) (tn := 9) (tk := 10) (te := 11) (bm := bm) (y0 := []) (mx := mx) rfl rfl 4 rfl rfl (show regOk _ 25 = true by decide +kernel) ?_ Try.underlying66 rfl rfl (Knows.at 1 rfl) (show 8 < 25 by decide) rfl (show regOk _ 25 = true by decide +kernel) (show codeOk 25 _ = true by decide +kernel) (show 9 < 25 by decide) (show 10 < 25 by decide) (show 11 < 25 by decide) rfl
    (fun _ _ _ _ _ => rfl) (fun mx' seen y h => ⟨2, false, by rw [h.1, h.2.2]; exact Knows.at 1 rfl⟩) ?_ (fun hn => ⟨(upd_none mx).symm, hn, rfl⟩) (fun br s hs => by rw [upd_none]; exact hs.tl [0, 1] 2) ?_
  · skip
    refine WXL.move Met.none rfl ?_
    refine WXL.nilCheck Met.none rfl ?_
    first | refine WXL.fieldAddr Met.none rfl Try.underlying68 rfl sz66 rfl ?_ | refine WXL.faS Met.none rfl Try.underlying68 rfl sz66 ?_
    first | refine WXL.ld Met.none rfl agg66 ?_ | refine WXL.ldS Met.none rfl agg66 ?_
    refine WXL.nilK ?_
    exact (fun s hs => hs.tl [0, 1] 2)
  · intro br mx' seen sn k n v ⟨h3, h4, h5⟩ h6 h7
    subst h3 h5
    have h8 := upd_mem h6 h7
    obtain ⟨fa, fn, fc, fd, rfl⟩ := hf _ h8
    have h9 := upd_put hk h4 h8 h7
    rw [hard_file] at h9
    refine WXL.extract Met.none rfl rfl ?_
    refine WXL.extract Met.none rfl rfl ?_
    refine WXL.alloc (c := [_, _]) Met.none zero71 rfl (fun b3 => ?_)
    refine WXL.assign Met.none rfl ?_
    refine WXL.st (vs := [_, _]) (c' := [_, _]) Met.none rfl rfl rfl sz71 ?_
    refine WXL.nilK ?_
    refine (show WX _ ⟨25, false, h, .late⟩ _ _ _ _ from ?_)
    refine WX.draw rfl ?_
    refine WXL.move Met.none rfl ?_
    refine WXL.nilCheck Met.none rfl ?_
    first | refine WXL.fieldAddr Met.none rfl Try.underlying68 rfl sz66 rfl ?_ | refine WXL.faS Met.none rfl Try.underlying68 rfl sz66 ?_
    first | refine WXL.ld Met.none rfl agg66 ?_ | refine WXL.ldS Met.none rfl agg66 ?_
    refine WXL.move Met.none rfl ?_
    refine WXL.fieldAddr (off' := 0) Met.none rfl Try.underlying71 rfl sz27 rfl ?_
    first | refine WXL.ld Met.none rfl agg27 ?_ | refine WXL.ldS Met.none rfl agg27 ?_
    refine WXL.fieldAddr (off' := 0) Met.none rfl Try.underlying71 rfl sz27 rfl ?_
    first | refine WXL.ld Met.none rfl agg27 ?_ | refine WXL.ldS Met.none rfl agg27 ?_
    refine WXL.len Met.none rfl Try.underlying27 ?_
    refine WXL.build (c := [_, _]) Met.none rfl zero71 places71 rfl ?_
    refine WXL.mapUpdate (j := 2) Met.none rfl rfl rfl mapT66 ?_ (hj := rfl)
    refine WXL.nilK ?_
    intro s hs
    refine ⟨rfl, upd mx (n :: sn), n :: sn, ⟨rfl, h4, rfl⟩, rfl, by rw [upd_stamps, upd_stamps], ?_⟩
    rw [← h9]
    exact hs.tl [1, 2] 3
  · intro br mx' seen sn a3 w3 ⟨h3, h4, h5⟩ h6 hat3
    subst h3 h5
    refine ⟨.inl rfl, ?_⟩
    obtain ⟨ι4, s4, g1, g2, g3, g4, g5, g6⟩ := hat3
    rw [upd_all h6] at g1
    have hold : ∀ b, b < h.n → b ≠ bm → s4.h.o b = g.o b := fun b hb hne => g6.2 b (by rw [hg]; exact hb) (by
      rw [hg]
      show isRo (bif !(Nat.beq b bm) then mkro (h.o b) else h.o b) = true
      rw [show (!(Nat.beq b bm)) = true by rw [beq_ne hne]; rfl]
      show isRo (mkro (h.o b)) = true
      cases h.o b <;> rfl)
    have hres : resultsA Try.prog Try.f40 s4 = some [] := rfl
    obtain ⟨v', hrun, hrel⟩ := results_run (P := Try.prog) g2 hres
    have hrel0 : VRel ι (.tuple #[]) v' := by
      cases hrel with
      | atom q => exact VRel.undef
      | tuple q1 q2 => exact .tuple q1 fun i v v' a _ => by simp at a
    -- the map's block
    obtain ⟨em, hem, hmp⟩ : ∃ em, ι bm = some em ∧ em.mp = true := by
      have h3 := hs.tmps 0
      rw [show (enterA Try.f40 #[Ptr d 0] h).t 0 = Ptr d 0 from rfl] at h3
      obtain ⟨ed, q1, q2, _⟩ := h3.ptr_inv
      obtain ⟨v2, _, q3⟩ := hr1.val d ed _ 0 (Mp bm) q1 q2 h1.rd rfl
      obtain ⟨em, q4, q5, _⟩ := map_inv q3
      exact ⟨em, q4, q5⟩
    obtain ⟨f4, k4, o4⟩ := g1.sat.at (j := 1) rfl
    have hem4 : ι4 bm = some em := More.lay hr0 g3 _ _ hem
    obtain ⟨hone4, es4, clock4, hes4, c4, hc4, hp4, hp42, hp43⟩ := g2.heap.maps bm em _ _ _ _ _ _ hem4 hmp o4
    obtain ⟨hone, es, clock, hes, c0, hc0, hp0, _, _⟩ := hr1.maps bm em _ _ _ _ _ _ hem hmp h2
    unfold mcells at hc4 hc0
    injection hc4 with e1 e2
    injection hc0 with e3 e4
    subst e2 e4
    have hlay := More.lay hr0 g3
    have hrelm : MapRel ι (mcells mx.hard) es4 clock4 := ⟨_, by unfold mcells; rw [e1], pair_back hp4 fun e he u hu => by
      obtain ⟨e', he', rfl⟩ := List.mem_map.1 he
      obtain ⟨fa, fn, fc, fd, hfv⟩ := hf _ he'
      obtain ⟨u0, hu0⟩ := pair_vals hp0 e' he'
      simp only [hfv, hard_file] at hu0 hu ⊢
      exact file_back hlay hu0 hu, hp42, hp43⟩
    obtain ⟨m1, m2, m3⟩ := mapset_ok hr1 hem hmp h2 hrelm
    generalize hw' : ({ w with heap := w.heap.setIfInBounds em.block (.map es4 clock4) } : World) = w' at m1 m2
    have hsz' : w'.heap.size = w.heap.size := by rw [← hw']; simp
    have hblk : ∀ B, B < w'.heap.size → w3.heap[B]? = w'.heap[B]? := fun B hB => by
      by_cases hBe : B = em.block
      · subst hBe
        rw [hes4, ← hw']
        show _ = (w.heap.setIfInBounds em.block _)[em.block]?
        rw [Array.getElem?_setIfInBounds_self, if_pos (by rw [← hsz']; exact hB)]
      · have e5 : w'.heap[B]? = w.heap[B]? := by rw [← hw']; show (w.heap.setIfInBounds em.block _)[B]? = _; rw [Array.getElem?_setIfInBounds_ne (Ne.symm hBe)]
        rw [e5]
        refine g4.block B (by rw [← hsz']; exact hB) fun b e q1 q2 => .inl (hold b (hr1.lt b e q1) fun q => ?_)
        subst q
        rw [hem] at q1
        obtain rfl := Option.some.inj q1
        exact hBe q2.symm
    have hle : w'.heap.size ≤ w3.heap.size := by rw [hsz']; exact g4.size
    have m4 := m1.pre hle hblk
    refine ⟨g5, ι, v', hrun, m3, hrel0, m4, Keep0.trans hr1 m1 m3 (More.refl m1) m2.zero (Keep0.grow ?_ ?_ ?_ hle hblk)⟩
    · rw [g4.os, ← hw']
    · rw [g4.tape, ← hw']
    · rw [g4.output, ← hw']

theorem harden_direct {h : AHeap} {d bm : Nat} {ro1 off armed : Bool} {room lft : Int} {mx : MapX} {f k : Nat} (h1 : Is h d ⟨0, ro1, dObj bm room off armed lft⟩) (h2 : h.o bm = .cells 2 false f none k (mcells mx)) (hf : ∀ e ∈ mx.es, IsFile e.2.2) (hk : (mx.es.map (·.1)).Nodup) :
    Direct Try.prog 40 #[Ptr d 0] h (.tuple #[]) (h.set bm (.cells 2 false f none (k + 1) (mcells mx.hard))) :=
  ⟨.inr (.inr ⟨_, _, _, _, _, _, h2, rfl⟩), fun F ρ => by
    obtain ⟨f1, k1, e1⟩ := h1
    obtain ⟨r1, q1⟩ := un_cells (F := F) e1
    rw [un_set]
    exact harden_sem (ro1 := r1) (off := off) (armed := armed) (room := room) (lft := lft) (bm := bm) ⟨f1, k1, q1⟩ (un_own h2) hf hk ρ⟩

end Go.Proofs.Ytahaplbdhgfobaa.Eng

set_option linter.unusedVariables false
set_option linter.unusedSimpArgs false
namespace Go.Proofs.Ytahaplbdhgfobaa.Eng

def around (n : Int) (most : Int) : Int := if n < 0 then (-(n + 1)).tmod most else n.tmod most

def In64 (n : Int) : Prop := -9223372036854775808 ≤ n ∧ n ≤ 9223372036854775807
def InU (n : Int) : Prop := 0 ≤ n ∧ n < 18446744073709551616

theorem around_ok (O : Objs) (n most : Int) (hn : In64 n) (hm : most ≠ 0) : Spec Try.prog true 12 #[I n, I most] O fun v O' => v = I (around n most) ∧ O' = O := by
  unfold In64 at hn
  refine Spec.enter (args := [_, _]) (m := 13) Try.func12 rfl rfl (by decide +kernel) fun h0 => ?_
  refine WX.seq ?_
  refine WX.region rfl ?_
  refine WXL.assign Met.none rfl ?_
  refine WXL.nil ?_
  refine Fin.then_normal ?_
  refine WX.seq ?_
  refine WX.seq ?_
  refine WX.region rfl ?_
  refine WXL.move Met.none rfl ?_
  refine WXL.bin Met.none rfl rfl rfl ?_
  refine WXL.nil ?_
  refine Fin.then_normal ?_
  refine WX.cond rfl (fun hc0 => ?_) (fun hc0 => ?_)
  · try simp only [cnd] at hc0
    refine WX.region rfl ?_
    refine WXL.move Met.none rfl ?_
    refine WXL.bin Met.none rfl rfl bvA ?_
    refine WXL.neg Met.none rfl (by first | exact wrap_neg (by omega) (by omega) | exact rfl) ?_
    refine WXL.assign Met.none rfl ?_
    refine WXL.nil ?_
    refine Fin.then_normal ?_
    refine WX.seq ?_
    refine WX.region rfl ?_
    refine WXL.move Met.none rfl ?_
    refine WXL.move Met.none rfl ?_
    refine WXL.rem Met.none rfl rfl (by omega) ?_
    refine WXL.assign Met.none rfl ?_
    refine WXL.nil ?_
    refine Fin.then_normal ?_
    refine WX.ret ?_
    exact Fin.result (.inr rfl) rfl rfl (fun _ h => h) ⟨by unfold around; first | (rw [if_pos (by assumption)]; exact rfl) | (rw [if_neg (by omega)]; exact rfl), rfl⟩
  · try simp only [cnd] at hc0
    refine WX.skip ?_
    refine Fin.then_normal ?_
    refine WX.seq ?_
    refine WX.region rfl ?_
    refine WXL.move Met.none rfl ?_
    refine WXL.move Met.none rfl ?_
    refine WXL.rem Met.none rfl rfl (by omega) ?_
    refine WXL.assign Met.none rfl ?_
    refine WXL.nil ?_
    refine Fin.then_normal ?_
    refine WX.ret ?_
    exact Fin.result (.inr rfl) rfl rfl (fun _ h => h) ⟨by unfold around; first | (rw [if_pos (by assumption)]; exact rfl) | (rw [if_neg (by omega)]; exact rfl), rfl⟩

theorem take_succ_nth {α : Type} [Inhabited α] {l : List α} {k : Nat} (h : k < l.length) : l.take (k + 1) = l.take k ++ [nth l k] := by
  rw [List.take_add_one, nth_eq h]; rfl

abbrev Short {α : Type} (l : List α) : Prop := l.length ≤ 4611686018427387904

theorem sameB_ok (O : Objs) (l m : List Int) (a b : Option Addr) (c e : Nat) (hlen : Short l) (hl : Src O 1 (.slice a l.length c) l.length (l.map B8)) (hm : Src O 1 (.slice b m.length e) m.length (m.map B8)) :
    Spec Try.prog true 18 #[.slice a l.length c, .slice b m.length e] O fun v O' => v = .bool (decide (l = m)) ∧ O' = O := by
  unfold Short at hlen
  refine Spec.enter (args := [_, _]) (m := 26) Try.func18 rfl rfl (by decide +kernel) fun h0 => ?_
  refine WX.seq ?_
  refine WX.region rfl ?_
  refine WXL.assign Met.none rfl ?_
  refine WXL.nil ?_
  refine Fin.then_normal ?_
  refine WX.seq ?_
  refine WX.seq ?_
  refine WX.region rfl ?_
  refine WXL.move Met.none rfl ?_
  refine WXL.len Met.none rfl Try.underlying27 ?_
  refine WXL.move Met.none rfl ?_
  refine WXL.len Met.none rfl Try.underlying27 ?_
  refine WXL.bin Met.none rfl rfl rfl ?_
  refine WXL.nil ?_
  refine Fin.then_normal ?_
  refine WX.cond rfl (fun hc0 => ?_) (fun hc0 => ?_)
  · try simp only [cnd] at hc0
    refine WX.seq ?_
    refine WX.region rfl ?_
    refine WXL.assign Met.none rfl ?_
    refine WXL.nil ?_
    refine Fin.then_normal ?_
    refine WX.ret ?_
    refine Fin.then_ret ?_
    refine Fin.result (.inr rfl) rfl rfl (fun _ h => h) ⟨?_, rfl⟩
    first
    | exact bool_false (fun h => hc0 (by rw [h]))
    | exact bool_false (fun h => hc2 (by rw [h]))
    | exact bool_true (by
        have e1 : k = l.length := by omega
        have e2 := hk.2
        rw [e1, List.take_length, List.take_of_length_le (by omega)] at e2
        exact e2)
  · try simp only [cnd] at hc0
    refine WX.skip ?_
    refine Fin.then_normal ?_
    refine WX.seq ?_
    refine WX.seq ?_
    refine WX.region rfl ?_
    refine WXL.assign Met.none rfl ?_
    refine WXL.nil ?_
    refine Fin.then_normal ?_
    refine WX.block ?_
    refine WX.loop (fun k : Nat => [(0, .slice a l.length c), (1, .slice b m.length e), (5, I k)]) (fun _ => O) (fun k => k ≤ l.length ∧ l.take k = m.take k) (fun k => l.length - k) 0 ⟨Nat.zero_le _, rfl⟩ (fun s hs => hs.tl [] 0) (fun k hk => ?_)
    refine WX.seq ?_
    refine WX.seq ?_
    refine WX.region rfl ?_
    refine WXL.move Met.none rfl ?_
    refine WXL.move Met.none rfl ?_
    refine WXL.len Met.none rfl Try.underlying27 ?_
    refine WXL.bin Met.none rfl rfl rfl ?_
    refine WXL.nil ?_
    refine Fin.then_normal ?_
    refine WX.cond rfl (fun hc1 => ?_) (fun hc1 => ?_)
    · try simp only [cnd] at hc1
      refine WX.skip ?_
      refine Fin.then_normal ?_
      refine WX.seq ?_
      refine WX.block ?_
      refine WX.seq ?_
      refine WX.draw rfl ?_
      refine WXL.move Met.none rfl ?_
      refine WXL.move Met.none rfl ?_
      first | refine WXL.ix Met.none rfl rfl elem27 sz5 ?_ | refine WXL.ixS Met.none rfl rfl elem27 sz5 ?_
      first | refine WXL.ld Met.none rfl agg5 ?_ | refine WXL.ldS Met.none rfl agg5 ?_
      refine WXL.move Met.none rfl ?_
      refine WXL.move Met.none rfl ?_
      first | refine WXL.ix Met.none rfl rfl elem27 sz5 ?_ | refine WXL.ixS Met.none rfl rfl elem27 sz5 ?_
      first | refine WXL.ld Met.none rfl agg5 ?_ | refine WXL.ldS Met.none rfl agg5 ?_
      refine WXL.bin Met.none rfl rfl rfl ?_
      refine WXL.nil ?_
      refine Fin.then_normal ?_
      refine WX.cond rfl (fun hc2 => ?_) (fun hc2 => ?_)
      · try simp only [cnd] at hc2
        refine WX.seq ?_
        refine WX.region rfl ?_
        refine WXL.assign Met.none rfl ?_
        refine WXL.nil ?_
        refine Fin.then_normal ?_
        refine WX.ret ?_
        refine Fin.block_ret ?_
        refine Fin.then_ret ?_
        refine Fin.loop_ret ?_
        refine Fin.block_ret ?_
        refine Fin.then_ret ?_
        refine Fin.result (.inr rfl) rfl rfl (fun _ h => h) ⟨?_, rfl⟩
        first
        | exact bool_false (fun h => hc0 (by rw [h]))
        | exact bool_false (fun h => hc2 (by rw [h]))
        | exact bool_true (by
            have e1 : k = l.length := by omega
            have e2 := hk.2
            rw [e1, List.take_length, List.take_of_length_le (by omega)] at e2
            exact e2)
      · try simp only [cnd] at hc2
        refine WX.skip ?_
        refine Fin.block_normal ?_
        refine Fin.then_normal ?_
        refine WX.region rfl ?_
        refine WXL.move Met.none rfl ?_
        refine WXL.bin Met.none rfl rfl bvA ?_
        refine WXL.assign Met.none rfl ?_
        refine WXL.nil ?_
        refine Fin.loop_next (k + 1) ⟨by omega, ?_⟩ (by omega) (fun s hs => hs.tl [] 0)
        rw [take_succ_nth (by omega), take_succ_nth (by omega), hk.2, hc2]
    · try simp only [cnd] at hc1
      refine WX.exit ?_
      refine Fin.then_exit ?_
      refine Fin.loop_exit ?_
      refine Fin.block_hit rfl ?_
      refine Fin.then_normal ?_
      refine WX.seq ?_
      refine WX.region rfl ?_
      refine WXL.assign Met.none rfl ?_
      refine WXL.nil ?_
      refine Fin.then_normal ?_
      refine WX.ret ?_
      refine Fin.result (.inr rfl) rfl rfl (fun _ h => h) ⟨?_, rfl⟩
      first
      | exact bool_false (fun h => hc0 (by rw [h]))
      | exact bool_false (fun h => hc2 (by rw [h]))
      | exact bool_true (by
          have e1 : k = l.length := by omega
          have e2 := hk.2
          rw [e1, List.take_length, List.take_of_length_le (by omega)] at e2
          exact e2)


theorem clone_ok (O : Objs) (l : List Int) (a : Option Addr) (c : Nat) (hlen : l.length ≤ 1000000000000) (hnil : a = none → l = []) (hl : Src O 1 (.slice a l.length c) l.length (l.map B8)) :
    Spec Try.prog false 37 #[.slice a l.length c] O fun v O' => ∃ a' c' G, v = .slice a' l.length c' ∧ Grow 1 a' l.length c' (l.map B8) G ∧ O' = G ++ O := by
  refine Spec.enter (args := [_]) (m := 8) Try.func37 rfl rfl (by decide +kernel) fun h0 => ?_
  refine WX.seq ?_
  refine WX.region rfl ?_
  refine WXL.assign Met.none rfl ?_
  refine WXL.nil ?_
  refine Fin.then_normal ?_
  refine WX.seq ?_
  refine WX.seq ?_
  refine WX.region rfl ?_
  refine WXL.move Met.none rfl ?_
  refine WXL.eqNil Met.none rfl rfl Try.underlying27 ?_
  refine WXL.nil ?_
  refine Fin.then_normal ?_
  refine WX.cond rfl (fun hc0 => ?_) (fun hc0 => ?_)
  · try simp only [cnd] at hc0
    refine WX.seq ?_
    refine WX.region rfl ?_
    refine WXL.assign Met.none rfl ?_
    refine WXL.nil ?_
    refine Fin.then_normal ?_
    refine WX.ret ?_
    refine Fin.then_ret ?_
    first
    | (have hla : l = [] := hnil (by simpa using hc0)
       subst hla
       exact Fin.result (O' := [] ++ O) (.inr rfl) rfl rfl drop_ ⟨none, 0, [], rfl, .nil, rfl⟩)
    | exact Fin.result (O' := [(b7, ⟨1, false, l.map B8⟩)] ++ O) (.inr rfl) rfl rfl (fun _ => Sat.tl [0] 1) ⟨some ⟨b7, 0, none⟩, _, [_], rfl, .row (by simp), rfl⟩
  · try simp only [cnd] at hc0
    refine WX.skip ?_
    refine Fin.then_normal ?_
    refine WX.seq ?_
    refine WX.region rfl ?_
    refine WXL.buildSlice (c := []) Met.none rfl elem27 sz5 zero5 (by decide) (by decide) rfl rfl rfl rfl (fun b5 => ?_)
    refine WXL.move Met.none rfl ?_
    refine WXL.ap Met.none rfl rfl isrow27 elem27 sz5 by5 zero5 src_ (fun b7 => ?_) (hc := (show _ = l.map B8 from rfl))
    rw [Nat.zero_add l.length]
    refine WXL.assign Met.none rfl ?_
    refine WXL.nil ?_
    refine Fin.then_normal ?_
    refine WX.ret ?_
    first
    | (have hla : l = [] := hnil (by simpa using hc0)
       subst hla
       exact Fin.result (O' := [] ++ O) (.inr rfl) rfl rfl drop_ ⟨none, 0, [], rfl, .nil, rfl⟩)
    | exact Fin.result (O' := [(b7, ⟨1, false, l.map B8⟩)] ++ O) (.inr rfl) rfl rfl (fun _ => Sat.tl [0] 1) ⟨some ⟨b7, 0, none⟩, _, [_], rfl, .row (by simp), rfl⟩

theorem clone_q (O : Objs) (l : List Int) (a : Option Addr) (c : Nat) (hlen : l.length ≤ 1000000000000) (hnil : a = none → l = []) (hl : Src O 1 (.slice a l.length c) l.length (l.map B8)) :
    Spec Try.prog true 37 #[.slice a l.length c] O fun v O' => ∃ a' c' G, v = .slice a' l.length c' ∧ Grow 1 a' l.length c' (l.map B8) G ∧ O' = G ++ O :=
  (Spec.frame (Post := fun v N => ∃ a' c', v = .slice a' l.length c' ∧ Grow 1 a' l.length c' (l.map B8) N)
    ((clone_ok (roO O) l a c hlen hnil hl.roh).mono fun v O' ⟨a', c', G, h1, h2, h3⟩ => ⟨G, ⟨a', c', h1, h2⟩, h2.own, h3⟩)).mono fun v O' ⟨N, ⟨a', c', h1, h2⟩, h3⟩ => ⟨a', c', N, h1, h2, h3⟩


theorem few_ok (O : Objs) (b : List Int) (a : Option Addr) (c : Nat) (most : Int) (hm : 0 ≤ most) (hlen : Short b) (hml : most ≤ 1000000000) (hr : Rowy O 1 a b.length (b.map B8)) (hc : a = none → c = 0) :
    Spec Try.prog false 13 #[.slice a b.length c, I most] O fun v O' => ∃ a' c' G, v = .slice a' (b.take most.toNat).length c' ∧ Grow 1 a' (b.take most.toNat).length c' ((b.take most.toNat).map B8) G ∧ O' = G ++ O := by
  unfold Short at hlen
  obtain ⟨m, hm2⟩ : ∃ m, m = (b.take most.toNat).length := ⟨_, rfl⟩
  have hml2 : m = min b.length most.toNat := by rw [hm2, List.length_take]; omega
  have htm : b.take m = b.take most.toNat := by
    rw [hml2]
    rcases Nat.le_total b.length most.toNat with q | q
    · rw [Nat.min_eq_left q, List.take_of_length_le (Nat.le_refl _), List.take_of_length_le q]
    · rw [Nat.min_eq_right q]
  have hr2 := hr.pre (m := m) (by omega)
  rw [Nat.mul_one, ← List.map_take, htm] at hr2
  refine Spec.enter (args := [_, _]) (m := 14) Try.func13 rfl rfl (by decide +kernel) fun h0 => ?_
  refine WX.seq ?_
  refine WX.region rfl ?_
  refine WXL.assign Met.none rfl ?_
  refine WXL.nil ?_
  refine Fin.then_normal ?_
  refine WX.seq ?_
  refine WX.region rfl ?_
  refine WXL.assign Met.none rfl ?_
  refine WXL.nil ?_
  refine Fin.then_normal ?_
  refine WX.seq ?_
  refine WX.region rfl ?_
  refine WXL.move Met.none rfl ?_
  refine WXL.move Met.none rfl ?_
  refine WXL.move Met.none rfl ?_
  refine WXL.len Met.none rfl Try.underlying27 ?_
  refine WXL.move Met.none rfl ?_
  refine WXL.min Met.none rfl rfl ?_
  refine WXL.pre (m := m) Met.none rfl rfl elem27 sz5 hr hc ?_
  refine WXL.apG ([]) Met.none rfl rfl isrow27 elem27 sz5 by5 zero5 (hr2.src (fun q => hr2.nil0 q)) (fun a13 c13 G13 hG13 => ?_) (hm := (by rw [List.length_map, ← hm2]; omega)) (hg := .nil)
  refine WXL.assign Met.none rfl ?_
  refine WXL.nil ?_
  refine Fin.then_normal ?_
  refine WX.ret ?_
  rw [← hm2]
  rw [Nat.zero_add] at hG13
  exact Fin.result (O' := G13 ++ O) (.inr rfl) rfl rfl (fun _ h => h) ⟨a13, c13, G13, by rw [Nat.zero_add]; rfl, hG13, rfl⟩


theorem Src.row1 {O : Objs} {b n c : Nat} {r : Bool} {cs : List Value} (hl : cs.length = n) : Src ((b, ⟨1, r, cs⟩) :: O) 1 (.slice (some ⟨b, 0, none⟩) n c) n cs :=
  Src.of (y := ⟨1, r, cs⟩) (Knows.at 0 rfl) (by show 0 + n * 1 ≤ cs.length; omega) (by show (cs.drop 0).take (n * 1) = cs; rw [Nat.mul_one, List.drop_zero, ← hl, List.take_length])

theorem byte_of {n : Int} (h : 0 ≤ n ∧ n ≤ 255) : 0 ≤ n ∧ n < 256 := ⟨h.1, by have := h.2; omega⟩

theorem bytes_of {l : List Int} (h : ∀ n ∈ l, 0 ≤ n ∧ n ≤ 255) : Bytes l := fun n hn => ⟨(h n hn).1, by have := (h n hn).2; omega⟩


theorem take_bytes {l : List Int} {k : Nat} (h : Bytes l) : Bytes (l.take k) := fun x hx => h x (List.mem_of_mem_take hx)


theorem around_range {n m : Int} (hm : 0 < m) : 0 ≤ around n m ∧ around n m < m := by
  unfold around
  split
  · rw [Int.tmod_eq_emod_of_nonneg (by omega)]
    exact ⟨Int.emod_nonneg _ (by omega), Int.emod_lt_of_pos _ hm⟩
  · rw [Int.tmod_eq_emod_of_nonneg (by omega)]
    exact ⟨Int.emod_nonneg _ (by omega), Int.emod_lt_of_pos _ hm⟩

theorem wrap8_lt (n : Int) : 0 ≤ IntKind.wrap .u8 n ∧ IntKind.wrap .u8 n < 256 := by
  unfold IntKind.wrap
  have e1 : (2 : Int) ^ IntKind.bits .u8 = 256 := rfl
  have e3 : IntKind.signed .u8 = false := rfl
  simp only [e1, e3, Bool.false_and, Bool.false_eq_true, if_false]
  omega


end Go.Proofs.Ytahaplbdhgfobaa.Eng

set_option linter.unusedVariables false
set_option linter.unusedSimpArgs false
set_option maxRecDepth 4000
namespace Go.Proofs.Ytahaplbdhgfobaa.Eng

/-- What is known of the objects is told anew in the middle of a region. -/
theorem WXL.re {P : Program} {x : Cx} {ops : Array Oper} {mq : Mk} {i : Nat} {l : List Oper} {L : Tmps} {O O' : Objs} {K : ASt → Prop} (h : WXL P x ops mq i l L O' K) (hs : ∀ g, Sat g O → Sat g O' := by exact sub_) (hq : x.q = false := by exact rfl) : WXL P x ops mq i l L O K :=
  fun a b s hst hz => h a b s ⟨hst.m, hst.t, hs _ hst.sat, fun q => by rw [hq] at q; cases q⟩ hz

/-- A file: its bytes, how many of them are durable. -/
structure Fi where
  bs : List Int
  d : Int

def FileOk (R : Objs) (v : Value) (f : Fi) : Prop := ∃ a c, v = fileV a f.bs.length c f.d ∧ Rowy R 1 a f.bs.length (f.bs.map B8) ∧ (a = none → c = 0) ∧ Bytes f.bs

inductive FRel (R : Objs) : List (Int × Value) → List (Int × Fi) → Prop
  | nil : FRel R [] []
  | cons {k v f m fs} : FileOk R v f → FRel R m fs → FRel R ((k, v) :: m) ((k, f) :: fs)

def used : List (Int × Fi) → Int
  | [] => 0
  | e :: l => (e.2.bs.length : Int) + used l

theorem used_nn : ∀ fs, 0 ≤ used fs
  | [] => Int.le_refl _
  | e :: l => by
    have := used_nn l
    unfold used
    omega

variable {R : Objs}

theorem FileOk.app {N : Objs} {v : Value} {f : Fi} (h : FileOk R v f) : FileOk (N ++ R) v f := by
  obtain ⟨a, c, h1, h2, h3⟩ := h
  exact ⟨a, c, h1, h2.app, h3⟩
theorem FRel.app {N : Objs} {m : List (Int × Value)} {fs : List (Int × Fi)} (h : FRel R m fs) : FRel (N ++ R) m fs := by
  induction h with
  | nil => exact .nil
  | cons h1 _ ih => exact .cons h1.app ih

theorem FRel.get {m : List (Int × Value)} {fs : List (Int × Fi)} (h : FRel R m fs) (k : Int) : (mget k m = none ∧ mget k fs = none) ∨ ∃ v f, mget k m = some v ∧ mget k fs = some f ∧ FileOk R v f := by
  induction h with
  | nil => exact .inl ⟨rfl, rfl⟩
  | @cons k' v f m fs h1 _ ih =>
    simp only [mget]
    by_cases q : k = k'
    · rw [if_pos q, if_pos q]; exact .inr ⟨v, f, rfl, rfl, h1⟩
    · rw [if_neg q, if_neg q]; exact ih

theorem FRel.put {m : List (Int × Value)} {fs : List (Int × Fi)} (h : FRel R m fs) (k : Int) {v : Value} {f : Fi} (hv : FileOk R v f) : FRel R (mput k v m) (mput k f fs) := by
  induction h with
  | nil => exact .cons hv .nil
  | @cons k' v' f' m fs h1 h2 ih =>
    simp only [mput]
    by_cases q : k = k'
    · rw [if_pos q, if_pos q]; exact .cons hv h2
    · rw [if_neg q, if_neg q]; exact .cons h1 ih

theorem FRel.del {m : List (Int × Value)} {fs : List (Int × Fi)} (h : FRel R m fs) (k : Int) : FRel R (mdel k m) (mdel k fs) := by
  induction h with
  | nil => exact .nil
  | @cons k' v' f' m fs h1 h2 ih =>
    simp only [mdel]
    by_cases q : k = k'
    · rw [if_pos q, if_pos q]; exact h2
    · rw [if_neg q, if_neg q]; exact .cons h1 ih

theorem FRel.keys {m : List (Int × Value)} {fs : List (Int × Fi)} (h : FRel R m fs) : m.map (·.1) = fs.map (·.1) := by
  induction h with
  | nil => rfl
  | cons _ _ ih => rw [List.map_cons, List.map_cons, ih]

def Fi.hard (f : Fi) : Fi := ⟨f.bs, f.bs.length⟩
def hardAll (fs : List (Int × Fi)) : List (Int × Fi) := fs.map fun e => (e.1, e.2.hard)

theorem FRel.hard {m : List (Int × Value)} {fs : List (Int × Fi)} (h : FRel R m fs) : FRel R (m.map fun e => (e.1, Eng.hard e.2)) (hardAll fs) := by
  induction h with
  | nil => exact .nil
  | cons h1 _ ih =>
    obtain ⟨a, c, rfl, h2, h3⟩ := h1
    exact .cons ⟨a, c, rfl, h2, h3⟩ ih

theorem MapX.hard_kv (mx : MapX) : mx.hard.kv = mx.kv.map fun e => (e.1, Eng.hard e.2) := by
  unfold MapX.hard MapX.kv
  simp only [List.map_map]
  rfl

theorem FRel.file {m : List (Int × Value)} {fs : List (Int × Fi)} (h : FRel R m fs) : ∀ e ∈ m, IsFile e.2 := by
  induction h with
  | nil => intro e he; simp at he
  | cons h1 _ ih =>
    intro e he
    rcases List.mem_cons.1 he with rfl | he
    · obtain ⟨a, c, h2, _⟩ := h1; exact ⟨a, _, c, _, h2⟩
    · exact ih e he

theorem FRel.lens {mx : MapX} {fs : List (Int × Fi)} (h : FRel R mx.kv fs) : Eng.lens mx.es = used fs := by
  obtain ⟨ck, es⟩ := mx
  unfold MapX.kv at h
  simp only at h ⊢
  induction es generalizing fs with
  | nil => cases h; rfl
  | cons e es ih =>
    rw [List.map_cons] at h
    cases h with
    | cons h1 h2 =>
      obtain ⟨a, c, h3, _⟩ := h1
      simp only [Eng.lens, used]
      rw [ih h2, h3, flen_file]

theorem isfile_es {mx : MapX} (h : ∀ e ∈ mx.kv, IsFile e.2) : ∀ e ∈ mx.es, IsFile e.2.2 := fun e he => h (e.1, e.2.2) (List.mem_map.2 ⟨e, he, rfl⟩)
theorem keys_es (mx : MapX) : mx.es.map (·.1) = mx.kv.map (·.1) := by
  unfold MapX.kv
  rw [List.map_map]; rfl

/-! ### Keys -/
theorem mput_mem {α : Type} {k : Int} {u : α} {x : Int} : ∀ {m : List (Int × α)}, x ∈ (mput k u m).map (·.1) → x = k ∨ x ∈ m.map (·.1)
  | [], h => by simp [mput] at h; exact .inl h
  | (n, v) :: m, h => by
    simp only [mput] at h
    split at h
    · rename_i q
      simp only [List.map_cons, List.mem_cons] at h ⊢
      rcases h with h | h
      · exact .inl h
      · exact .inr (.inr h)
    · simp only [List.map_cons, List.mem_cons] at h ⊢
      rcases h with h | h
      · exact .inr (.inl h)
      · exact (mput_mem h).imp id .inr

theorem mput_nd {α : Type} {k : Int} {u : α} : ∀ {m : List (Int × α)}, (m.map (·.1)).Nodup → ((mput k u m).map (·.1)).Nodup
  | [], _ => by simp [mput]
  | (n, v) :: m, h => by
    simp only [List.map_cons, List.nodup_cons] at h
    simp only [mput]
    split
    · rename_i q
      subst q
      simp only [List.map_cons, List.nodup_cons]
      exact h
    · rename_i q
      simp only [List.map_cons, List.nodup_cons]
      refine ⟨fun hm => ?_, mput_nd h.2⟩
      rcases mput_mem hm with e | e
      · exact q e.symm
      · exact h.1 e

theorem mdel_sub {α : Type} {k : Int} : ∀ {m : List (Int × α)}, (mdel k m).Sublist m
  | [] => List.Sublist.slnil
  | (n, v) :: m => by
    simp only [mdel]
    split
    · exact List.sublist_cons_self _ _
    · exact mdel_sub.cons_cons _

theorem mdel_nd {α : Type} {k : Int} {m : List (Int × α)} (h : (m.map (·.1)).Nodup) : ((mdel k m).map (·.1)).Nodup := (mdel_sub.map _).nodup h

/-- A disk's map is these files. -/
structure DI (R : Objs) (mx : MapX) (fs : List (Int × Fi)) : Prop where
  rel : FRel R mx.kv fs
  nd : (fs.map (·.1)).Nodup

theorem DI.app {N : Objs} {mx : MapX} {fs : List (Int × Fi)} (h : DI R mx fs) : DI (N ++ R) mx fs := ⟨h.rel.app, h.nd⟩

def setF (fs : List (Int × Fi)) (k : Int) (f : Fi) : List (Int × Fi) := if f.bs = [] then mdel k (mput k f fs) else mput k f fs
def setX (mx : MapX) (k : Int) (v : Value) (n : Nat) : MapX := if n = 0 then (mx.put k v).del k else mx.put k v

theorem DI.set {mx : MapX} {fs : List (Int × Fi)} (h : DI R mx fs) (k : Int) {v : Value} {f : Fi} (hv : FileOk R v f) : DI R (setX mx k v f.bs.length) (setF fs k f) := by
  unfold setX setF
  by_cases q : f.bs = []
  · rw [if_pos (by rw [q]; rfl), if_pos q]
    refine ⟨?_, mdel_nd (mput_nd h.nd)⟩
    rw [MapX.kv_del, MapX.kv_put]
    exact (h.rel.put k hv).del k
  · rw [if_neg (fun e => q (List.length_eq_zero_iff.1 e)), if_neg q]
    refine ⟨?_, mput_nd h.nd⟩
    rw [MapX.kv_put]
    exact h.rel.put k hv

theorem DI.hard {mx : MapX} {fs : List (Int × Fi)} (h : DI R mx fs) : DI R mx.hard (hardAll fs) := ⟨by rw [MapX.hard_kv]; exact h.rel.hard, by
  unfold hardAll
  rw [List.map_map]
  exact h.nd⟩

/-- What a file that is not there reads as. -/
def getF (fs : List (Int × Fi)) (k : Int) : Fi := (mget k fs).getD ⟨[], 0⟩
theorem DI.get {mx : MapX} {fs : List (Int × Fi)} (h : DI R mx fs) (k : Int) : FileOk R ((mget k mx.kv).getD (fileV none 0 0 0)) (getF fs k) := by
  unfold getF
  rcases h.rel.get k with ⟨h1, h2⟩ | ⟨v, f, h1, h2, h3⟩
  · rw [h1, h2]; exact ⟨none, 0, rfl, .inl ⟨rfl, rfl, rfl⟩, fun _ => rfl, fun x hx => by simp at hx⟩
  · rw [h1, h2]; exact h3

theorem DI.new : DI R MapX.new [] := ⟨.nil, by simp⟩

theorem Rowy.inc {R0 : Objs} {sz : Nat} {a : Option Addr} {n : Nat} {cs : List Value} (h : Rowy R0 sz a n cs) (hi : ∀ g, Sat g R → Sat g R0) : Rowy R sz a n cs := by
  rcases h with h | ⟨b, off, y, h1, h2, h3⟩
  · exact .inl h
  · exact .inr ⟨b, off, y, h1, fun g hg => h2 g (hi g hg), h3⟩

/-! ### Disks -/
structure Dk where
  room : Int
  off : Bool
  armed : Bool
  left : Int
  fs : List (Int × Fi)

/-- A step: does it succeed, and the disk then. -/
def stepD (D : Dk) : Bool × Dk :=
  if D.armed = false then (true, D)
  else if D.left - 1 < 0 then (false, { D with off := true, armed := false, left := D.left - 1 })
  else (!D.off, { D with left := D.left - 1 })

def readD (D : Dk) (n : Int) : List Int × Int :=
  if ¬ (0 ≤ n ∧ n < 64) then ([], 1) else if D.off = true then ([], 23) else ((getF D.fs n).bs, 0)

def appD1 (D : Dk) (n : Int) (b : List Int) : Dk := { D with fs := setF D.fs n ⟨(getF D.fs n).bs ++ b, (getF D.fs n).d⟩ }
def appendD (D : Dk) (n : Int) (b : List Int) : Int × Dk :=
  if ¬ (0 ≤ n ∧ n < 64) then (1, D) else if D.off = true then (23, D) else if (b.length : Int) > D.room - used D.fs then (22, D)
  else (if (stepD (appD1 D n b)).1 = true then 0 else 23, (stepD (appD1 D n b)).2)

def syncD (D : Dk) : Int × Dk :=
  if D.off = true then (23, D) else if (stepD D).1 = false then (23, (stepD D).2) else (0, { (stepD D).2 with fs := hardAll (stepD D).2.fs })

def truncD (D : Dk) (n size : Int) : Int × Dk :=
  if ¬ (0 ≤ n ∧ n < 64) ∨ size < 0 ∨ size > ((getF D.fs n).bs.length : Int) then (1, D)
  else if D.off = true then (23, D) else if (stepD D).1 = false then (23, (stepD D).2)
  else (0, { (stepD D).2 with fs := setF D.fs n ⟨(getF D.fs n).bs.take size.toNat, min (getF D.fs n).d size⟩ })

/-- A disk among the objects: its two own ones, and behind them all else. -/
abbrev dkO (d bm : Nat) (D : Dk) (mx : MapX) (R : Objs) : Objs := (d, ⟨0, false, dObj bm D.room D.off D.armed D.left⟩) :: (bm, ⟨2, false, mcells mx⟩) :: R

/-- A file that is there: its number, not empty, so many durable bytes. -/
def FiOk (e : Int × Fi) : Prop := (0 ≤ e.1 ∧ e.1 < 64) ∧ e.2.bs ≠ [] ∧ 0 ≤ e.2.d ∧ e.2.d ≤ e.2.bs.length

structure DkI (R : Objs) (D : Dk) (mx : MapX) : Prop where
  di : DI R mx D.fs
  ok : ∀ e ∈ D.fs, FiOk e
  room : 0 ≤ D.room ∧ D.room ≤ 16777216
  left : D.armed = true → 0 ≤ D.left ∧ D.left < 9223372036854775808
  used : used D.fs ≤ D.room

theorem stepD_fs (D : Dk) : (stepD D).2.fs = D.fs ∧ (stepD D).2.room = D.room := by
  unfold stepD
  split
  · exact ⟨rfl, rfl⟩
  · split <;> exact ⟨rfl, rfl⟩

theorem stepD_left {D : Dk} (h : D.armed = true → 0 ≤ D.left ∧ D.left < 9223372036854775808) : (stepD D).2.armed = true → 0 ≤ (stepD D).2.left ∧ (stepD D).2.left < 9223372036854775808 := by
  unfold stepD
  split
  · exact h
  · rename_i q
    split
    · intro q2; simp at q2
    · intro q2
      have := h (by simpa using q)
      simp only
      omega

theorem DkI.step {D : Dk} {mx : MapX} (h : DkI R D mx) : DkI R (stepD D).2 mx := by
  obtain ⟨h1, h2⟩ := stepD_fs D
  exact ⟨by rw [h1]; exact h.di, by rw [h1]; exact h.ok, by rw [h2]; exact h.room, stepD_left h.left, by rw [h1, h2]; exact h.used⟩

theorem DkI.app {N : Objs} {D : Dk} {mx : MapX} (h : DkI R D mx) : DkI (N ++ R) D mx := ⟨h.di.app, h.ok, h.room, h.left, h.used⟩
theorem DI.cons {q : Nat × Ent} {mx : MapX} {fs : List (Int × Fi)} (h : DI R mx fs) : DI (q :: R) mx fs := h.app (N := [q])
theorem DkI.cons {q : Nat × Ent} {D : Dk} {mx : MapX} (h : DkI R D mx) : DkI (q :: R) D mx := h.app (N := [q])

theorem used_hard : ∀ fs, used (hardAll fs) = used fs
  | [] => rfl
  | e :: l => by
    have := used_hard l
    unfold hardAll at this ⊢
    simp only [List.map_cons, used, this]
    rfl

theorem DkI.hard {D : Dk} {mx : MapX} (h : DkI R D mx) : DkI R { D with fs := hardAll D.fs } mx.hard := ⟨h.di.hard, (fun e he => by
    obtain ⟨e', he', rfl⟩ := List.mem_map.1 he
    obtain ⟨h1, h2, h3, h4⟩ := h.ok e' he'
    exact ⟨h1, h2, Int.natCast_nonneg _, Int.le_refl _⟩), h.room, h.left, by simp only [used_hard]; exact h.used⟩

/-! What a change of one file does to the sum. -/
theorem used_get : ∀ (fs : List (Int × Fi)) (k : Int), ((getF fs k).bs.length : Int) ≤ used fs
  | [], k => Int.le_refl _
  | e :: l, k => by
    have h1 := used_get l k
    have h2 := used_nn l
    unfold getF at h1 ⊢
    obtain ⟨n, f⟩ := e
    simp only [mget, used]
    split
    · simp only [Option.getD_some]; omega
    · omega

theorem used_put : ∀ (fs : List (Int × Fi)) (k : Int) (f : Fi), used (mput k f fs) = used fs - (getF fs k).bs.length + f.bs.length
  | [], k, f => by
    show (f.bs.length : Int) + 0 = 0 - (0 : Nat) + f.bs.length
    omega
  | (n, v) :: l, k, f => by
    have h1 := used_put l k f
    unfold getF at h1 ⊢
    simp only [mput, mget]
    by_cases q : k = n
    · rw [if_pos q, if_pos q]
      simp only [used, Option.getD_some]
      omega
    · rw [if_neg q, if_neg q]
      simp only [used]
      omega

theorem get_put {fs : List (Int × Fi)} {k : Int} {f : Fi} : getF (mput k f fs) k = f := by
  unfold getF
  induction fs with
  | nil => simp [mput, mget]
  | cons e l ih =>
    obtain ⟨n, v⟩ := e
    simp only [mput]
    by_cases q : k = n
    · rw [if_pos q]; simp [mget]
    · rw [if_neg q]; simp only [mget]; rw [if_neg q]; exact ih

theorem used_del : ∀ (fs : List (Int × Fi)) (k : Int), used (mdel k fs) = used fs - (getF fs k).bs.length
  | [], k => rfl
  | (n, v) :: l, k => by
    have h1 := used_del l k
    unfold getF at h1 ⊢
    simp only [mdel, mget]
    by_cases q : k = n
    · rw [if_pos q, if_pos q]
      simp only [used, Option.getD_some]
      omega
    · rw [if_neg q, if_neg q]
      simp only [used]
      omega

theorem used_set (fs : List (Int × Fi)) (k : Int) (f : Fi) : used (setF fs k f) = used fs - (getF fs k).bs.length + f.bs.length := by
  unfold setF
  split
  · rename_i q
    rw [used_del, used_put, get_put, q]
    simp
  · exact used_put fs k f

theorem DkI.get_len {D : Dk} {mx : MapX} (h : DkI R D mx) (k : Int) : (getF D.fs k).bs.length ≤ 16777216 := by
  have h1 := used_get D.fs k
  have h2 := h.used
  have h3 := h.room
  omega

theorem mput_all {α : Type} {k : Int} {u : α} : ∀ {m : List (Int × α)} {e : Int × α}, e ∈ mput k u m → e = (k, u) ∨ e ∈ m
  | [], e, h => by simp [mput] at h; exact .inl h
  | (n, v) :: m, e, h => by
    simp only [mput] at h
    split at h
    · rcases List.mem_cons.1 h with h | h
      · exact .inl h
      · exact .inr (List.mem_cons_of_mem _ h)
    · rcases List.mem_cons.1 h with h | h
      · exact .inr (h ▸ List.mem_cons_self ..)
      · exact (mput_all h).imp id (List.mem_cons_of_mem _)

theorem mdel_ne {α : Type} {k : Int} : ∀ {m : List (Int × α)} {e : Int × α}, (m.map (·.1)).Nodup → e ∈ mdel k m → e.1 ≠ k ∧ e ∈ m
  | [], e, _, h => by simp [mdel] at h
  | (n, v) :: m, e, hn, h => by
    simp only [List.map_cons, List.nodup_cons] at hn
    simp only [mdel] at h
    split at h
    · rename_i q
      subst q
      exact ⟨fun q => hn.1 (List.mem_map.2 ⟨e, h, q⟩), List.mem_cons_of_mem _ h⟩
    · rename_i q
      rcases List.mem_cons.1 h with rfl | h
      · exact ⟨fun e => q e.symm, List.mem_cons_self ..⟩
      · exact (mdel_ne hn.2 h).imp id (List.mem_cons_of_mem _)

theorem mget_mem {α : Type} {k : Int} {u : α} : ∀ {m : List (Int × α)}, mget k m = some u → (k, u) ∈ m
  | [], h => by simp [mget] at h
  | (n, v) :: m, h => by
    simp only [mget] at h
    split at h
    · rename_i q; injection h with h; subst q h; exact List.mem_cons_self ..
    · exact List.mem_cons_of_mem _ (mget_mem h)

/-- How many bytes of a file are durable. -/
theorem DkI.get_d {D : Dk} {mx : MapX} (h : DkI R D mx) (k : Int) : 0 ≤ (getF D.fs k).d ∧ (getF D.fs k).d ≤ (getF D.fs k).bs.length := by
  unfold getF
  cases hg : mget k D.fs with
  | none => exact ⟨Int.le_refl _, Int.le_refl _⟩
  | some f =>
    obtain ⟨_, _, h3⟩ := h.ok _ (mget_mem hg)
    exact h3

theorem DkI.set {D : Dk} {mx : MapX} (h : DkI R D mx) (k : Int) {v : Value} {f : Fi} (hv : FileOk R v f) (hk : 0 ≤ k ∧ k < 64) (hd : 0 ≤ f.d ∧ f.d ≤ f.bs.length) (hu : Eng.used D.fs - (getF D.fs k).bs.length + f.bs.length ≤ D.room) : DkI R { D with fs := setF D.fs k f } (setX mx k v f.bs.length) :=
  ⟨h.di.set k hv, (fun e he => by
    unfold setF at he
    split at he
    · obtain ⟨h1, h2⟩ := mdel_ne (mput_nd h.di.nd) he
      rcases mput_all h2 with h2 | h2
      · exact absurd (by rw [h2]) h1
      · exact h.ok e h2
    · rename_i q
      rcases mput_all he with h2 | h2
      · rw [h2]; exact ⟨hk, q, hd⟩
      · exact h.ok e h2), h.room, h.left, by simp only [used_set]; exact hu⟩

theorem DkI.lens {D : Dk} {mx : MapX} (h : DkI R D mx) : Eng.lens mx.es = Eng.used D.fs := h.di.rel.lens
theorem DkI.files {D : Dk} {mx : MapX} (h : DkI R D mx) : ∀ e ∈ mx.es, IsFile e.2.2 := isfile_es h.di.rel.file
theorem DkI.keys {D : Dk} {mx : MapX} (h : DkI R D mx) : (mx.es.map (·.1)).Nodup := by rw [keys_es, h.di.rel.keys]; exact h.di.nd

end Go.Proofs.Ytahaplbdhgfobaa.Eng
