/- Regions in the text's order, code and calls: a run of the abstract machine is a run of the model. Own work; no condition. -/
import Derived.Test.YtjmklialkjncaaaEngL
set_option linter.unusedVariables false
set_option linter.unusedSimpArgs false
namespace Go.Proofs.Ytjmklialkjncaaa.Eng

variable {P : Program} {base : Nat} {ι ι1 ι2 : Lay} {h h' h1 h2 : AHeap} {w w1 w2 : World}

inductive OpsTr (P : Program) (ops : Array Oper) (mq lz : Nat → Bool) : List Nat → List Nat → ASt → ASt → Prop
  | nil {Z s} : OpsTr P ops mq lz Z [] s s
  | op {Z i o rest s v h' s'} : ops[i]? = some o → wantedA ops o s = true → OpSem P (fun x y _ => y = x) o s v h' → (mq i = true → Quiet s.h h' ∧ OpSem P Untouched o s v h') →
      (WF s.h → WF h' ∧ s.h.n ≤ h'.n) → (isPureOp o.op = true → h' = s.h ∧ ∀ g, OpSem P Untouched o { s with h := g } v g) → lz i = false → (∀ b ∈ Z, h'.o b = s.h.o b) →
      OpsTr P ops mq lz Z rest (s.put o.dst v h') s' → OpsTr P ops mq lz Z (i :: rest) s s'
  | lazy {Z i o rest s v s' b} : ops[i]? = some o → wantedA ops o s = true → OpSem P (fun x y _ => y = x) o s v s.h → isPureOp o.op = false → plainC v = true → (∀ g : AHeap, g.o b = s.h.o b → OpSem P Untouched o { s with h := g } v g) →
      OpsTr P ops mq lz (b :: Z) rest (s.put o.dst v s.h) s' → OpsTr P ops mq lz Z (i :: rest) s s'
  | skip {Z i o rest s s'} : ops[i]? = some o → wantedA ops o s = false → OpsTr P ops mq lz Z rest (s.put o.dst undef s.h) s' → OpsTr P ops mq lz Z (i :: rest) s s'

/-- The same guard on both sides, if the guard's slot is related. -/
theorem wanted_eq {ops : Array Oper} {o : Oper} {s : ASt} {a : Act}
    (ht : ∀ j want d, o.guard = some (j, want) → ((ops[j]?).bind (·.dst)) = some d → VRel ι (s.t d) (a.tmps.getD d undef)) : Region.wanted o (yielded ops a.tmps) = wantedA ops o s := by
  unfold Region.wanted wantedA
  unfold Region.wanted
  cases hg : o.guard with
  | none => rfl
  | some p =>
    obtain ⟨j, want⟩ := p
    simp only
    congr 1
    unfold yielded
    cases hd : (ops[j]?).bind (·.dst) with
    | none => rfl
    | some d =>
      simp only [Option.bind_some]
      have hr := ht j want d hg hd
      have e1 : (match a.tmps[d]? with | some (.bool b) => some b | _ => none) = (match a.tmps.getD d undef with | .bool b => some b | _ => none) := by
        rw [Array.getD_eq_getD_getElem?]
        cases a.tmps[d]? with
        | none => rfl
        | some v => cases v <;> rfl
      refine e1.trans ?_
      clear e1
      generalize a.tmps.getD d undef = v' at hr
      generalize s.t d = v at hr
      cases hr <;> rfl

theorem regOk_mem {ops : Array Oper} {m : Nat} (hk : regOk ops m = true) {i : Nat} {o : Oper} (ho : ops[i]? = some o) : (∀ d, o.dst = some d → d < m) ∧ ∀ x ∈ o.op.operands, okOperand x = true := by
  unfold regOk at hk
  have hm : o ∈ ops.toList := Array.mem_toList_iff.2 (Array.mem_of_getElem? ho)
  have := List.all_eq_true.1 hk o hm
  simp only [Bool.and_eq_true, List.all_eq_true] at this
  refine ⟨fun d hd => ?_, fun x hx => this.2 x (Array.mem_toList_iff.2 hx)⟩
  have h1 := this.1
  rw [hd] at h1
  exact of_decide_eq_true h1

theorem put_m (s : ASt) (dst : Option Tmp) (v : Value) (h : AHeap) : (s.put dst v h).m = s.m := by cases dst <;> rfl
theorem put_h (s : ASt) (dst : Option Tmp) (v : Value) (h : AHeap) : (s.put dst v h).h = h := by cases dst <;> rfl
theorem act_put_defers (a : Act) (dst : Option Tmp) (v : Value) : (a.put dst v).defers = a.defers := by cases dst <;> rfl

theorem text_ok {ops : Array Oper} {mq lz : Nat → Bool} {Z todo : List Nat} {s s' : ASt} (ht : OpsTr P ops mq lz Z todo s s') (hk : regOk ops s.m = true) :
    s'.m = s.m ∧ ∀ base ι (a : Act) (w : World) (Q : Exit → Act → World → Prop), SRel base ι s a w →
      (∀ ι' a' w', SRel base ι' s' a' w' → More base ι ι' s.h s'.h w → Keep0 ι s.h s'.h w w' → a'.defers = a.defers → Q .normal a' w') → wpOps P ops Q todo a w := by
  induction ht with
  | nil => exact ⟨rfl, fun base ι a w Q hs hq => hq ι a w hs (More.refl hs.heap) (KeepsBy.zero (Keeps.refl ι _ w)) rfl⟩
  | @op Z i o rest s v h' s' ho hw hsem _ _ _ _ _ hrest ih =>
    obtain ⟨im, ih⟩ := ih (by rw [put_m]; exact hk)
    obtain ⟨k1, k2⟩ := regOk_mem hk ho
    refine ⟨by rw [im, put_m], fun base ι a w Q hs hq => ?_⟩
    rw [wpOps_cons]
    unfold wpOp
    simp only [ho]
    rw [wanted_eq fun j want d _ _ => hs.tmps d, hw, if_pos rfl]
    refine .inl (hsem base ι a w _ Q hs.heap hs.base (fun x hx => operand_rel hs.tmps (k2 x hx)) fun ι' v' w' d1 d2 d3 d4 => ?_)
    have hs' := hs.put k1 d1 d2 d3 d4.size
    refine ih base ι' _ w' Q hs' fun ι2 a2 w2 s2 m2 c2 e2 => ?_
    rw [put_h] at m2 c2
    exact hq ι2 a2 w2 s2 (More.trans hs.heap d3 d1 m2 d4.size) (Keep0.trans hs.heap d1 m2 d4 c2) (by rw [e2, act_put_defers])
  | @lazy Z i o rest s v s' b ho hw hsem _ _ _ hrest ih =>
    obtain ⟨im, ih⟩ := ih (by rw [put_m]; exact hk)
    obtain ⟨k1, k2⟩ := regOk_mem hk ho
    refine ⟨by rw [im, put_m], fun base ι a w Q hs hq => ?_⟩
    rw [wpOps_cons]
    unfold wpOp
    simp only [ho]
    rw [wanted_eq fun j want d _ _ => hs.tmps d, hw, if_pos rfl]
    refine .inl (hsem base ι a w _ Q hs.heap hs.base (fun x hx => operand_rel hs.tmps (k2 x hx)) fun ι' v' w' d1 d2 d3 d4 => ?_)
    have hs' := hs.put k1 d1 d2 d3 d4.size
    refine ih base ι' _ w' Q hs' fun ι2 a2 w2 s2 m2 c2 e2 => ?_
    rw [put_h] at m2 c2
    exact hq ι2 a2 w2 s2 (More.trans hs.heap d3 d1 m2 d4.size) (Keep0.trans hs.heap d1 m2 d4 c2) (by rw [e2, act_put_defers])
  | @skip Z i o rest s s' ho hw hrest ih =>
    obtain ⟨im, ih⟩ := ih (by rw [put_m]; exact hk)
    obtain ⟨k1, k2⟩ := regOk_mem hk ho
    refine ⟨by rw [im, put_m], fun base ι a w Q hs hq => ?_⟩
    rw [wpOps_cons]
    unfold wpOp
    simp only [ho]
    rw [wanted_eq fun j want d _ _ => hs.tmps d, hw]
    simp only [Bool.false_eq_true, if_false]
    have hs' := hs.put k1 (More.refl hs.heap) (VRel.undef) hs.heap (Nat.le_refl _)
    refine ih base ι _ w Q hs' fun ι2 a2 w2 s2 m2 c2 e2 => ?_
    rw [put_h] at m2 c2
    exact hq ι2 a2 w2 s2 m2 c2 (by rw [e2, act_put_defers])

/-! ### Code -/
def SoundC (P : Program) (c : Code) (s : ASt) (e : Exit) (s' : ASt) : Prop :=
  (e = .normal ∨ e = .ret ∨ ∃ id, e = .exit id) ∧ s'.m = s.m ∧
  (∀ base ι (a : Act) (w : World) (Q : Exit → Act → World → Prop), SRel base ι s a w →
    (∀ ι' a' w', SRel base ι' s' a' w' → More base ι ι' s.h s'.h w → Keep0 ι s.h s'.h w w' → a'.defers = a.defers → Q e a' w') → c.wp P Q a w) ∧
  (∀ c0, c = .loop c0 → ∃ n, ∀ base ι (a : Act) (w : World) (Q : Exit → Act → World → Prop), SRel base ι s a w →
    (∀ ι' a' w', SRel base ι' s' a' w' → More base ι ι' s.h s'.h w → Keep0 ι s.h s'.h w w' → a'.defers = a.defers → Q e a' w') → Code.rounds P c0 Q n a w)

def resG (tmps : Array Value) : ResultVar → Sem Value
  | .tmp t => pure (tmps.getD t undef)
  | .cell b t => do loadVar t (← asAddr (tmps.getD b undef))

theorem results_eq (fn : Func) (tmps : Array Value) : results fn tmps = (do let vs ← fn.results.mapM (resG tmps); pure (if h : vs.size = 1 then vs[0] else .tuple vs)) := by
  unfold results
  congr 1

theorem resF_run {s : ASt} {a : Act} (hs : SRel base ι s a w) {r : ResultVar} {v : Value} (hv : resF P s r = some v) : ∃ v', (resG a.tmps r).run P w = .ok v' w ∧ VRel ι v v' := by
  cases r with
  | tmp t => injection hv with hv; subst hv; exact ⟨_, rfl, hs.tmps t⟩
  | cell b t =>
    simp only [resF] at hv
    split at hv
    · rename_i b0 off hb
      have hp := hs.tmps b
      rw [hb] at hp
      obtain ⟨e, he, hpe⟩ := hp.ptr_inv
      obtain ⟨v', hrun, hrel⟩ := load_ok (P := P) hs.heap he hv
      exact ⟨v', by simp only [resG, hpe, asAddr, Sem.run_bind, Sem.run_pure, Result.andThen_ok]; exact hrun, hrel⟩
    · cases hv

theorem results_run {fn : Func} {s : ASt} {a : Act} (hs : SRel base ι s a w) {vs : List Value} (hv : resultsA P fn s = some vs) : ∃ v', (results fn a.tmps).run P w = .ok v' w ∧ VRel ι (tupleA vs) v' := by
  unfold resultsA at hv
  have key : ∀ (rs : List ResultVar) (vs : List Value), rs.mapM (resF P s) = some vs →
      ∃ vs' : List Value, (rs.mapM (resG a.tmps)).run P w = .ok vs' w ∧ vs'.length = vs.length ∧ ∀ (i : Nat) v v', vs[i]? = some v → vs'[i]? = some v' → VRel ι v v' := by
    intro rs
    induction rs with
    | nil => intro vs h; simp at h; subst h; exact ⟨[], rfl, rfl, by simp⟩
    | cons r rs ih =>
      intro vs hv
      rw [List.mapM_cons] at hv
      cases hr : resF P s r with
      | none => rw [hr] at hv; cases hv
      | some v =>
        cases hm : rs.mapM (resF P s) with
        | none => rw [hr, hm] at hv; cases hv
        | some vs1 =>
          rw [hr, hm] at hv
          obtain rfl := Option.some.inj hv
          obtain ⟨v', hrun, hrel⟩ := resF_run hs hr
          obtain ⟨vs', q1, q2, q3⟩ := ih vs1 hm
          refine ⟨v' :: vs', ?_, by simp [q2], fun i u u' hu hu' => ?_⟩
          · rw [List.mapM_cons]
            simp only [Sem.run_bind, hrun, Result.andThen_ok, q1, Sem.run_pure]
          · cases i with
            | zero => simp at hu hu'; subst hu hu'; exact hrel
            | succ i => exact q3 i u u' (by simpa using hu) (by simpa using hu')
  obtain ⟨vs', q1, q2, q3⟩ := key fn.results.toList vs hv
  refine ⟨if hl : vs'.toArray.size = 1 then vs'.toArray[0] else .tuple vs'.toArray, ?_, ?_⟩
  · rw [results_eq, Array.mapM_eq_mapM_toList]
    simp only [Sem.run_bind, Sem.run_map, q1, Result.andThen_ok, Sem.run_pure]
  · match vs, vs', q2, q3 with
    | [], [], _, _ => exact .tuple rfl fun i v v' a _ => by simp at a
    | [v], [v'], _, q3 => exact q3 0 v v' rfl rfl
    | v1 :: v2 :: vs, u1 :: u2 :: us, q2, q3 =>
      simp only [List.size_toArray, List.length_cons]
      rw [dif_neg (by omega)]
      exact .tuple (by simp at q2 ⊢; exact q2.symm) fun i v v' a b => q3 i v v' (by simpa using a) (by simpa using b)

end Go.Proofs.Ytjmklialkjncaaa.Eng
