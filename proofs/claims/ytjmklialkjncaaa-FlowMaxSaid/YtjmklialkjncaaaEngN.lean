/- A run of the abstract machine is a run of the model: code and calls. Own work; no condition. -/
import Derived.Test.YtjmklialkjncaaaEngM
set_option linter.unusedVariables false
set_option linter.unusedSimpArgs false
namespace Go.Proofs.Ytjmklialkjncaaa.Eng

variable {P : Program} {base : Nat} {ι ι1 ι2 : Lay} {h h' h1 h2 : AHeap} {w w1 w2 : World}

/-- What regions that draw their order owe. -/
def DrawSem (P : Program) (ops : Array Oper) (mq lz : Nat → Bool) : Prop :=
  ∀ s s', regOk ops s.m = true → OpsTr P ops mq lz [] (List.range ops.size) s s' → ∀ id base ι (a : Act) (w : World) (Q : Exit → Act → World → Prop), SRel base ι s a w →
    (∀ ι' a' w', SRel base ι' s' a' w' → More base ι ι' s.h s'.h w → Keep0 ι s.h s'.h w w' → a'.defers = a.defers → Q .normal a' w') → (Code.region id ops true).wp P Q a w

def SoundJ (P : Program) : J → Prop
  | .code c s e s' => SoundC P c s e s'
  | .ops ops mq lz Z todo s s' => OpsTr P ops mq lz Z todo s s'
  | .call f args h v h' => CallSem P f args h v h'

theorem SRel.more {s s' : ASt} {a a' : Act} (hs : SRel base ι s a w) (hm : More base ι ι1 s.h s'.h w) (hk : Keep0 ι s.h s'.h w w1) (hs1 : SRel base ι1 s' a' w1) {s2 : ASt} {w2 : World} {ι2 : Lay}
    (hm2 : More base ι1 ι2 s'.h s2.h w1) (hk2 : Keep0 ι1 s'.h s2.h w1 w2) : More base ι ι2 s.h s2.h w ∧ Keep0 ι s.h s2.h w w2 :=
  ⟨More.trans hs.heap hs1.heap hm hm2 hk.size, Keep0.trans hs.heap hm hm2 hk hk2⟩

theorem then_ne {K : Act → World → Prop} {Q : Exit → Act → World → Prop} {e : Exit} {a : Act} {w : World} (he : e ≠ .normal) (hq : Q e a w) : Exit.then K Q e a w := by
  cases e <;> first | exact hq | exact absurd rfl he

def WFJ : J → Prop
  | .code _ s _ s' => WF s.h → WF s'.h ∧ s.h.n ≤ s'.h.n
  | .ops _ _ _ _ _ s s' => WF s.h → WF s'.h ∧ s.h.n ≤ s'.h.n
  | .call _ _ h _ h' => WF h → WF h' ∧ h.n ≤ h'.n

theorem wfJ {dr : Array Oper → (Nat → Bool) → (Nat → Bool) → Prop} {j : J} (hb : Big P dr j) : WFJ j := by
  have tr : ∀ {a b c : AHeap}, (WF a → WF b ∧ a.n ≤ b.n) → (WF b → WF c ∧ b.n ≤ c.n) → (WF a → WF c ∧ a.n ≤ c.n) := fun f g h => ⟨(g (f h).1).1, Nat.le_trans (f h).2 (g (f h).1).2⟩
  induction hb with
  | skip | label | exit | ret | nil => exact fun h => ⟨h, Nat.le_refl _⟩
  | region _ _ ih => exact ih
  | draw _ _ _ ih => exact ih
  | seq_n _ _ ih1 ih2 => exact tr ih1 ih2
  | seq_x _ _ ih => exact ih
  | cond_t _ _ _ ih => exact ih
  | cond_f _ _ _ ih => exact ih
  | block_n _ _ ih => exact ih
  | block_x _ ih => exact ih
  | loop_n _ _ ih1 ih2 => exact tr ih1 ih2
  | loop_x _ _ ih => exact ih
  | scope _ ih => exact ih
  | op _ _ ha _ _ _ _ ih =>
    intro h
    have h1 := aop_WF ha h
    have h2 := ih (by rw [put_h]; exact h1.1)
    rw [put_h] at h2
    exact ⟨h2.1, Nat.le_trans h1.2 h2.2⟩
  | oplazy _ _ _ _ _ _ _ _ ih =>
    intro h
    have h2 := ih (by rw [put_h]; exact h)
    rw [put_h] at h2
    exact h2
  | opcall _ _ _ _ _ _ _ _ ih1 ih2 =>
    intro h
    have h1 := ih1 h
    have h2 := ih2 (by rw [put_h]; exact h1.1)
    rw [put_h] at h2
    exact ⟨h2.1, Nat.le_trans h1.2 h2.2⟩
  | opskip _ _ _ ih =>
    intro h
    have h2 := ih (by rw [put_h]; exact h)
    rw [put_h] at h2
    exact h2
  | call _ _ _ _ _ ih => exact ih

theorem sound {dr : Array Oper → (Nat → Bool) → (Nat → Bool) → Prop} (hdr : ∀ ops mq lz, dr ops mq lz → DrawSem P ops mq lz) {j : J} (hb : Big P dr j) : SoundJ P j := by
  induction hb with
  | skip => exact ⟨.inl rfl, rfl, fun base ι a w Q hs hq => wp_skip (hq ι a w hs (More.refl hs.heap) (KeepsBy.zero (Keeps.refl ι _ w)) rfl), fun c0 h => by cases h⟩
  | label => exact ⟨.inl rfl, rfl, fun base ι a w Q hs hq => wp_label (hq ι a w hs (More.refl hs.heap) (KeepsBy.zero (Keeps.refl ι _ w)) rfl), fun c0 h => by cases h⟩
  | exit => exact ⟨.inr (.inr ⟨_, rfl⟩), rfl, fun base ι a w Q hs hq => wp_exit (hq ι a w hs (More.refl hs.heap) (KeepsBy.zero (Keeps.refl ι _ w)) rfl), fun c0 h => by cases h⟩
  | ret => exact ⟨.inr (.inl rfl), rfl, fun base ι a w Q hs hq => wp_ret (hq ι a w hs (More.refl hs.heap) (KeepsBy.zero (Keeps.refl ι _ w)) rfl), fun c0 h => by cases h⟩
  | region hk _ ih =>
    obtain ⟨hm, ht⟩ := text_ok ih hk
    exact ⟨.inl rfl, hm, fun base ι a w Q hs hq => wp_region (ht base ι a w Q hs hq), fun c0 h => by cases h⟩
  | draw hk hd _ ih =>
    obtain ⟨hm, _⟩ := text_ok ih hk
    exact ⟨.inl rfl, hm, fun base ι a w Q hs hq => hdr _ _ _ hd _ _ hk ih _ base ι a w Q hs hq, fun c0 h => by cases h⟩
  | seq_n _ _ ih1 ih2 =>
    obtain ⟨_, m1, i1, _⟩ := ih1
    obtain ⟨t2, m2, i2, _⟩ := ih2
    refine ⟨t2, by rw [m2, m1], fun base ι a w Q hs hq => wp_seq (i1 base ι a w _ hs fun ι1 a1 w1 s1 r1 k1 d1 => ?_), fun c0 h => by cases h⟩
    refine i2 base ι1 a1 w1 Q s1 fun ι2 a2 w2 s2 r2 k2 d2 => ?_
    obtain ⟨r, k⟩ := hs.more r1 k1 s1 r2 k2
    exact hq ι2 a2 w2 s2 r k (by rw [d2, d1])
  | seq_x _ hne ih =>
    obtain ⟨t1, m1, i1, _⟩ := ih
    refine ⟨t1, m1, fun base ι a w Q hs hq => wp_seq (i1 base ι a w _ hs fun ι1 a1 w1 s1 r1 k1 d1 => then_ne hne (hq ι1 a1 w1 s1 r1 k1 d1)), fun c0 h => by cases h⟩
  | @cond_t c x y s e s' hc ho _ ih =>
    obtain ⟨t1, m1, i1, _⟩ := ih
    refine ⟨t1, m1, fun base ι a w Q hs hq => ?_, fun c0 h => by cases h⟩
    have hr := operand_rel hs.tmps ho
    rw [hc] at hr
    exact wp_cond_true (hr.plain rfl) (i1 base ι a w Q hs hq)
  | @cond_f c x y s e s' hc ho _ ih =>
    obtain ⟨t1, m1, i1, _⟩ := ih
    refine ⟨t1, m1, fun base ι a w Q hs hq => ?_, fun c0 h => by cases h⟩
    have hr := operand_rel hs.tmps ho
    rw [hc] at hr
    exact wp_cond_false (hr.plain rfl) (i1 base ι a w Q hs hq)
  | @block_n id c s e s' _ hne ih =>
    obtain ⟨t1, m1, i1, _⟩ := ih
    refine ⟨t1, m1, fun base ι a w Q hs hq => wp_block (i1 base ι a w _ hs fun ι1 a1 w1 s1 r1 k1 d1 => ?_), fun c0 h => by cases h⟩
    have hq' := hq ι1 a1 w1 s1 r1 k1 d1
    cases e with
    | exit id' =>
      show (if id' = id then _ else _)
      rw [if_neg (fun e => hne (by rw [e]))]
      exact hq'
    | _ => exact hq'
  | @block_x id c s s' _ ih =>
    obtain ⟨t1, m1, i1, _⟩ := ih
    refine ⟨.inl rfl, m1, fun base ι a w Q hs hq => wp_block (i1 base ι a w _ hs fun ι1 a1 w1 s1 r1 k1 d1 => ?_), fun c0 h => by cases h⟩
    show (if id = id then _ else _)
    rw [if_pos rfl]
    exact hq ι1 a1 w1 s1 r1 k1 d1
  | @loop_n c s s1 e s' _ _ ih1 ih2 =>
    obtain ⟨_, m1, i1, _⟩ := ih1
    obtain ⟨t2, m2, _, i2⟩ := ih2
    obtain ⟨n, hn⟩ := i2 c rfl
    have key : ∀ base ι (a : Act) (w : World) (Q : Exit → Act → World → Prop), SRel base ι s a w →
        (∀ ι' a' w', SRel base ι' s' a' w' → More base ι ι' s.h s'.h w → Keep0 ι s.h s'.h w w' → a'.defers = a.defers → Q e a' w') → Code.rounds P c Q (n + 1) a w := by
      intro base ι a w Q hs hq
      rw [rounds_succ]
      refine i1 base ι a w _ hs fun ι1 a1 w1 s1 r1 k1 d1 => ?_
      refine hn base ι1 a1 w1 Q s1 fun ι2 a2 w2 s2 r2 k2 d2 => ?_
      obtain ⟨r, k⟩ := hs.more r1 k1 s1 r2 k2
      exact hq ι2 a2 w2 s2 r k (by rw [d2, d1])
    exact ⟨t2, by rw [m2, m1], fun base ι a w Q hs hq => wp_loop_rounds (n + 1) (key base ι a w Q hs hq), fun c0 h => by injection h with h; subst h; exact ⟨n + 1, key⟩⟩
  | @loop_x c s e s' _ hne ih =>
    obtain ⟨t1, m1, i1, _⟩ := ih
    have key : ∀ base ι (a : Act) (w : World) (Q : Exit → Act → World → Prop), SRel base ι s a w →
        (∀ ι' a' w', SRel base ι' s' a' w' → More base ι ι' s.h s'.h w → Keep0 ι s.h s'.h w w' → a'.defers = a.defers → Q e a' w') → Code.rounds P c Q (0 + 1) a w := by
      intro base ι a w Q hs hq
      rw [rounds_succ]
      exact i1 base ι a w _ hs fun ι1 a1 w1 s1 r1 k1 d1 => then_ne hne (hq ι1 a1 w1 s1 r1 k1 d1)
    exact ⟨t1, m1, fun base ι a w Q hs hq => wp_loop_rounds (0 + 1) (key base ι a w Q hs hq), fun c0 h => by injection h with h; subst h; exact ⟨0 + 1, key⟩⟩
  | @scope c s e s' _ ih =>
    obtain ⟨t1, m1, i1, _⟩ := ih
    refine ⟨t1, m1, fun base ι a w Q hs hq => wp_scope_straight (i1 base ι a w _ hs fun ι1 a1 w1 s1 r1 k1 d1 => ?_), fun c0 h => by cases h⟩
    have hq' := hq ι1 a1 w1 s1 r1 k1 d1
    rcases t1 with rfl | rfl | ⟨id, rfl⟩ <;> exact hq'
  | nil => exact .nil
  | op ho hw ha hq hl hz _ ih => exact .op ho hw (OpSem.simple ha).zero (fun hm => ⟨hq hm, OpSem.simple ha⟩) (aop_WF ha) (fun hp => ⟨(pure_aop hp ha).1, fun g => OpSem.simple ((pure_aop hp ha).2 g)⟩) hl hz ih
  | oplazy ho hw hop hx hb ha hp _ ih =>
    refine .lazy ho hw (OpSem.simple ha).zero (by rw [hop]; rfl) hp (fun g hg => OpSem.simple ?_) ih
    unfold aop at ha ⊢
    rw [hop] at ha ⊢
    simp only [ev_with] at ha ⊢
    rw [hx] at ha ⊢
    simp only at ha ⊢
    unfold loadA AHeap.rd at ha ⊢
    rw [hb] at ha
    rw [hg, hb]
    simp only at ha ⊢
    obtain ⟨u, h1, h2⟩ := Option.map_eq_some_iff.1 ha
    rw [h1]
    simp only [Option.map_some, Option.some.injEq, Prod.mk.injEq, and_true] at h2 ⊢
    exact h2
  | opcall ho hw hc hcall hq hl hz _ ih1 ih2 =>
    have h0 := OpSem.call hc ih1
    exact .op ho hw h0 (fun hm => ⟨⟨(hq hm).1, fun b hb => .inl ((hq hm).2 b hb)⟩, h0.untouched (hq hm)⟩) (wfJ hcall) (fun hp => by
      exfalso
      unfold acallee at hc
      split at hc
      · rename_i hop; rw [hop] at hp; simp [isPureOp] at hp
      · cases hc) hl hz ih2
  | opskip ho hw _ ih => exact .skip ho hw ih
  | @call f fn c args h e s' vs hf hbody _ he hres ih =>
    obtain ⟨_, m1, i1, _⟩ := ih
    intro base ι w args' hr hb ha
    refine calls_of_wp hf hbody (i1 base ι _ w _ ⟨?_, fun i => ?_, hr, hb⟩ fun ι1 a1 w1 s1 r1 k1 d1 => ?_)
    · simp [enterA, ha.1]; omega
    · show VRel ι (args.getD i undef) ((args' ++ Array.replicate (fn.ntmps - args'.size) undef).getD i undef)
      rw [Array.getD_eq_getD_getElem?, Array.getD_eq_getD_getElem?]
      rcases Nat.lt_or_ge i args.size with hi | hi
      · rw [Array.getElem?_append_left (by rw [ha.1]; exact hi), Array.getElem?_eq_getElem hi, Array.getElem?_eq_getElem (by rw [ha.1]; exact hi)]
        exact ha.2 i _ _ (Array.getElem?_eq_getElem hi) (Array.getElem?_eq_getElem (by rw [ha.1]; exact hi))
      · rw [Array.getElem?_append_right (by rw [ha.1]; exact hi), Array.getElem?_eq_none hi]
        have : ((Array.replicate (fn.ntmps - args'.size) undef)[i - args'.size]?).getD undef = undef := by
          cases hx : (Array.replicate (fn.ntmps - args'.size) undef)[i - args'.size]? with
          | none => rfl
          | some x =>
            have := Array.mem_of_getElem? hx
            simp at this
            rw [this.2]; rfl
        rw [this]
        exact VRel.undef
    · obtain ⟨v', hrun, hrel⟩ := results_run (P := P) s1 hres
      rcases he with rfl | rfl
      · exact ⟨d1, v', hrun, ι1, v', rfl, r1, hrel, s1.heap, k1⟩
      · exact ⟨d1, v', hrun, ι1, v', rfl, r1, hrel, s1.heap, k1⟩

end Go.Proofs.Ytjmklialkjncaaa.Eng
