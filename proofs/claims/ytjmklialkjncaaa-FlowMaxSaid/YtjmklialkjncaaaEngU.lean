/- Symbolic runs: the rules of code, regions, loops and calls. Own work; no condition. -/
import Derived.Test.YtjmklialkjncaaaEngT
set_option linter.unusedVariables false
set_option linter.unusedSimpArgs false
namespace Go.Proofs.Ytjmklialkjncaaa.Eng

variable {P : Program} {x : Cx} {L L' : Tmps} {O O' : Objs}

def W (P : Program) (c : Code) (s : ASt) (Q : Exit → ASt → Prop) : Prop := codeOk s.m c = true → ∃ e s', Big P drv (.code c s e s') ∧ s'.m = s.m ∧ Q e s'

/-- The rest of a run from every state of which this is known. -/
def WX (P : Program) (x : Cx) (c : Code) (L : Tmps) (O : Objs) (Q : Exit → ASt → Prop) : Prop := ∀ s, St x L O s → W P c s Q

def Fin (x : Cx) (L : Tmps) (O : Objs) (e : Exit) (Q : Exit → ASt → Prop) : Prop := ∀ s, St x L O s → Q e s

def thenW (P : Program) (b : Code) (Q : Exit → ASt → Prop) : Exit → ASt → Prop
  | .normal, s => W P b s Q
  | .ret, s => Q .ret s
  | .exit i, s => Q (.exit i) s
  | e, s => Q e s

def blockW (id : Nat) (Q : Exit → ASt → Prop) : Exit → ASt → Prop
  | .exit i, s => bif Nat.beq i id then Q .normal s else Q (.exit i) s
  | .normal, s => Q .normal s
  | .ret, s => Q .ret s
  | e, s => Q e s

def loopW {α : Type} (x : Cx) (LI : α → Tmps) (OI : α → Objs) (Iv : α → Prop) (μ : α → Nat) (a : α) (Q : Exit → ASt → Prop) : Exit → ASt → Prop
  | .normal, s => ∃ a', Iv a' ∧ μ a' < μ a ∧ St x (LI a') (OI a') s
  | .ret, s => Q .ret s
  | .exit i, s => Q (.exit i) s
  | e, s => Q e s

/-! ### 1. Ends -/
theorem Fin.then_normal {b : Code} {Q : Exit → ASt → Prop} (h : WX P x b L O Q) : Fin x L O .normal (thenW P b Q) := h
theorem Fin.then_ret {b : Code} {Q : Exit → ASt → Prop} (h : Fin x L O .ret Q) : Fin x L O .ret (thenW P b Q) := h
theorem Fin.then_exit {b : Code} {Q : Exit → ASt → Prop} {i : Nat} (h : Fin x L O (.exit i) Q) : Fin x L O (.exit i) (thenW P b Q) := h
theorem Fin.block_hit {Q : Exit → ASt → Prop} {i id : Nat} (hb : Nat.beq i id = true) (h : Fin x L O .normal Q) : Fin x L O (.exit i) (blockW id Q) := by
  intro s hs
  show (bif Nat.beq i id then _ else _)
  rw [hb]
  exact h s hs
theorem Fin.block_miss {Q : Exit → ASt → Prop} {i id : Nat} (hb : Nat.beq i id = false) (h : Fin x L O (.exit i) Q) : Fin x L O (.exit i) (blockW id Q) := by
  intro s hs
  show (bif Nat.beq i id then _ else _)
  rw [hb]
  exact h s hs
theorem Fin.block_normal {Q : Exit → ASt → Prop} {id : Nat} (h : Fin x L O .normal Q) : Fin x L O .normal (blockW id Q) := h
theorem Fin.block_ret {Q : Exit → ASt → Prop} {id : Nat} (h : Fin x L O .ret Q) : Fin x L O .ret (blockW id Q) := h
theorem Fin.loop_ret {α : Type} {LI : α → Tmps} {OI : α → Objs} {Iv : α → Prop} {μ : α → Nat} {a : α} {Q : Exit → ASt → Prop} (h : Fin x L O .ret Q) : Fin x L O .ret (loopW x LI OI Iv μ a Q) := h
theorem Fin.loop_exit {α : Type} {LI : α → Tmps} {OI : α → Objs} {Iv : α → Prop} {μ : α → Nat} {a : α} {Q : Exit → ASt → Prop} {i : Nat} (h : Fin x L O (.exit i) Q) : Fin x L O (.exit i) (loopW x LI OI Iv μ a Q) := h
theorem Fin.loop_next {α : Type} {LI : α → Tmps} {OI : α → Objs} {Iv : α → Prop} {μ : α → Nat} {a : α} {Q : Exit → ASt → Prop} (a' : α) (hi : Iv a') (hm : μ a' < μ a)
    (h : ∀ s, St x L O s → St x (LI a') (OI a') s) : Fin x L O .normal (loopW x LI OI Iv μ a Q) := fun s hs => ⟨a', hi, hm, h s hs⟩

/-! ### 2. Codes -/
theorem WX.skip {Q : Exit → ASt → Prop} (h : Fin x L O .normal Q) : WX P x .skip L O Q := fun s hs _ => ⟨_, _, .skip, rfl, h s hs⟩
theorem WX.label {l : Nat} {Q : Exit → ASt → Prop} (h : Fin x L O .normal Q) : WX P x (.label l) L O Q := fun s hs _ => ⟨_, _, .label, rfl, h s hs⟩
theorem WX.exit {i : Nat} {Q : Exit → ASt → Prop} (h : Fin x L O (.exit i) Q) : WX P x (.exit i) L O Q := fun s hs _ => ⟨_, _, .exit, rfl, h s hs⟩
theorem WX.ret {Q : Exit → ASt → Prop} (h : Fin x L O .ret Q) : WX P x .ret L O Q := fun s hs _ => ⟨_, _, .ret, rfl, h s hs⟩

theorem WX.seq {a b : Code} {Q : Exit → ASt → Prop} (h : WX P x a L O (thenW P b Q)) : WX P x (.seq a b) L O Q := by
  intro s hs hk
  simp only [codeOk, Bool.and_eq_true] at hk
  obtain ⟨e, s', h1, h2, h3⟩ := h s hs hk.1
  by_cases he : e = .normal
  · subst he
    obtain ⟨e2, s2, g1, g2, g3⟩ := (show W P b s' Q from h3) (by rw [h2]; exact hk.2)
    exact ⟨e2, s2, .seq_n h1 g1, g2.trans h2, g3⟩
  · refine ⟨e, s', .seq_x h1 he, h2, ?_⟩
    cases e <;> first | exact h3 | exact absurd rfl he

theorem WX.cond {c : Operand} {a b : Code} {Q : Exit → ASt → Prop} {t : Bool} (hc : evL L c = some (.bool t)) (h1 : t = true → WX P x a L O Q) (h2 : t = false → WX P x b L O Q) : WX P x (.cond c a b) L O Q := by
  intro s hs hk
  simp only [codeOk, Bool.and_eq_true] at hk
  cases t with
  | true =>
    obtain ⟨e, s', g1, g2, g3⟩ := h1 rfl s hs hk.1.2
    exact ⟨e, s', .cond_t (hs.t.ev hc) hk.1.1 g1, g2, g3⟩
  | false =>
    obtain ⟨e, s', g1, g2, g3⟩ := h2 rfl s hs hk.2
    exact ⟨e, s', .cond_f (hs.t.ev hc) hk.1.1 g1, g2, g3⟩

theorem WX.block {id : Nat} {c : Code} {Q : Exit → ASt → Prop} (h : WX P x c L O (blockW id Q)) : WX P x (.block id c) L O Q := by
  intro s hs hk
  obtain ⟨e, s', h1, h2, h3⟩ := h s hs hk
  by_cases he : e = .exit id
  · subst he
    refine ⟨.normal, s', .block_x h1, h2, ?_⟩
    have h4 : (bif Nat.beq id id then Q .normal s' else Q (.exit id) s') := h3
    rw [Nat.beq_refl] at h4
    exact h4
  · refine ⟨e, s', .block_n h1 he, h2, ?_⟩
    cases e with
    | exit i =>
      have h4 : (bif Nat.beq i id then Q .normal s' else Q (.exit i) s') := h3
      cases hb : Nat.beq i id with
      | true => exact absurd (by rw [Nat.eq_of_beq_eq_true hb]) he
      | false => rw [hb] at h4; exact h4
    | _ => exact h3

theorem WX.scope {c : Code} {Q : Exit → ASt → Prop} (h : WX P x c L O Q) : WX P x (.scope c) L O Q := by
  intro s hs hk
  obtain ⟨e, s', h1, h2, h3⟩ := h s hs hk
  exact ⟨e, s', .scope h1, h2, h3⟩

/-- A loop: what holds at each of its rounds, and a measure. -/
theorem WX.loop {α : Type} (LI : α → Tmps) (OI : α → Objs) (Iv : α → Prop) (μ : α → Nat) (a : α) {c : Code} {Q : Exit → ASt → Prop} (hi : Iv a) (hs0 : ∀ s, St x L O s → St x (LI a) (OI a) s)
    (h : ∀ a, Iv a → WX P x c (LI a) (OI a) (loopW x LI OI Iv μ a Q)) : WX P x (.loop c) L O Q := by
  have key : ∀ n a, μ a < n → Iv a → ∀ s, St x (LI a) (OI a) s → W P (.loop c) s Q := by
    intro n
    induction n with
    | zero => intro a ha; omega
    | succ n ih =>
      intro a ha hi s hs hk
      obtain ⟨e, s', h1, h2, h3⟩ := h a hi s hs hk
      by_cases he : e = .normal
      · subst he
        obtain ⟨a', i1, i2, i3⟩ := h3
        obtain ⟨e2, s2, g1, g2, g3⟩ := ih a' (by omega) i1 s' i3 (by rw [h2]; exact hk)
        exact ⟨e2, s2, .loop_n h1 g1, g2.trans h2, g3⟩
      · refine ⟨e, s', .loop_x h1 he, h2, ?_⟩
        cases e <;> first | exact h3 | exact absurd rfl he
  exact fun s hs => key (μ a + 1) a (Nat.lt_succ_self _) hi s (hs0 s hs)

/-- What is known is told anew. -/
theorem WX.of {c : Code} {Q : Exit → ASt → Prop} (h0 : ∀ s, St x L O s → St x L' O' s) (h : WX P x c L' O' Q) : WX P x c L O Q := fun s hs => h s (h0 s hs)
theorem Fin.of {e : Exit} {Q : Exit → ASt → Prop} (h0 : ∀ s, St x L O s → St x L' O' s) (h : Fin x L' O' e Q) : Fin x L O e Q := fun s hs => h s (h0 s hs)

/-! ### 3. Regions -/
def WXL (P : Program) (x : Cx) (ops : Array Oper) (mq : Mk) (i : Nat) (l : List Oper) (L : Tmps) (O : Objs) (K : ASt → Prop) : Prop :=
  ops.toList.drop i = l → flagsOk ops mq.q mq.lz = true → ∀ s, St x L O s → (∀ z ∈ mq.Z, z < s.h.n) → ∃ s', Big P drv (.ops ops mq.q mq.lz mq.Z (List.range' i l.length) s s') ∧ s'.m = s.m ∧ K s'

def noMk : Mk := ⟨fun _ => false, fun _ => false, []⟩
def mkOf (ops : Array Oper) : Mk := ⟨needs ops, lazyOf ops, []⟩

theorem flagsFalse (ops : Array Oper) : flagsOk ops (fun _ => false) (fun _ => false) = true := by
  unfold flagsOk
  rw [List.all_eq_true]
  intro i _
  cases ops[i]? <;> rfl

theorem flags_at {ops : Array Oper} {q lz : Nat → Bool} (h : flagsOk ops q lz = true) {i : Nat} {o : Oper} (ho : ops[i]? = some o) : (q i = true → isStoreOp o.op = false) ∧ (lz i = true → isLoadOp o.op = true) := by
  unfold flagsOk at h
  have := List.all_eq_true.1 h i (List.mem_range.2 (Array.getElem?_eq_some_iff.1 ho).1)
  rw [ho] at this
  simp only [Bool.and_eq_true, Bool.or_eq_true, Bool.not_eq_true'] at this
  exact ⟨fun hq => by rcases this.1 with h1 | h1; · rw [hq] at h1; cases h1
                      · exact h1, fun hq => by rcases this.2 with h1 | h1; · rw [hq] at h1; cases h1
                                               · exact h1⟩

theorem WX.region {id : Nat} {ops : Array Oper} {l : List Oper} {Q : Exit → ASt → Prop} (hl : ops.toList = l) (h : WXL P x ops noMk 0 l L O (Q .normal)) : WX P x (.region id ops false) L O Q := by
  intro s hs hk
  obtain ⟨s', h1, h2, h3⟩ := h (by simpa using hl) (flagsFalse ops) s hs (fun z hz => by simp [noMk] at hz)
  refine ⟨_, s', .region hk ?_, h2, h3⟩
  rw [List.range_eq_range', show ops.size = l.length from by rw [← hl]; simp]
  exact h1

theorem WX.draw {id : Nat} {ops : Array Oper} {l : List Oper} {Q : Exit → ASt → Prop} (hl : ops.toList = l) (h : WXL P x ops (mkOf ops) 0 l L O (Q .normal)) : WX P x (.region id ops true) L O Q := by
  intro s hs hk
  simp only [codeOk, Bool.and_eq_true] at hk
  obtain ⟨s', h1, h2, h3⟩ := h (by simpa using hl) hk.2 s hs (fun z hz => by simp [mkOf] at hz)
  refine ⟨_, s', .draw hk.1.1 hk.1.2 ?_, h2, h3⟩
  rw [List.range_eq_range', show ops.size = l.length from by rw [← hl]; simp]
  exact h1

theorem WXL.nil {ops : Array Oper} {mq : Mk} {i : Nat} {e : Exit} {Q : Exit → ASt → Prop} (h : Fin x L O e Q) : WXL P x ops mq i [] L O (Q e) :=
  fun _ _ s hs _ => ⟨s, .nil, rfl, h s hs⟩

theorem drop_head {ops : Array Oper} {i : Nat} {o : Oper} {l : List Oper} (h : ops.toList.drop i = o :: l) : ops[i]? = some o ∧ ops.toList.drop (i + 1) = l := by
  have hlt : i < ops.toList.length := by
    rcases Nat.lt_or_ge i ops.toList.length with q | q
    · exact q
    · rw [List.drop_eq_nil_of_le q] at h; cases h
  rw [List.drop_eq_getElem_cons hlt] at h
  injection h with h1 h2
  refine ⟨?_, h2⟩
  rw [← Array.getElem?_toList, List.getElem?_eq_getElem hlt, h1]

/-- A guarded operation that is not carried out. -/
theorem WXL.miss {ops : Array Oper} {mq : Mk} {i j d : Nat} {b want : Bool} {dst : Tmp} {op : Op} {t : TypeId} {p : String} {af : Array Edge} {l : List Oper} {K : ASt → Prop} (hj : (ops[j]?).bind (·.dst) = some d) (hd : getT L d = some (.bool b))
    (hb : (b == want) = false) (h : WXL P x ops mq (i + 1) l ((dst, undef) :: L) O K) : WXL P x ops mq i ({ dst := some dst, op := op, type := t, pos := p, after := af, guard := some (j, want) } :: l) L O K := by
  intro hdr hq s hs hz
  obtain ⟨ho, hd'⟩ := drop_head hdr
  obtain ⟨s', g1, g2, g3⟩ := h hd' hq (s.put (some dst) undef s.h) ⟨hs.m, hs.t.put _ _ _, hs.sat, hs.old⟩ hz
  refine ⟨s', .opskip ho ?_ g1, by rw [g2, put_m], g3⟩
  unfold wantedA Region.wanted
  simp only [hj, hs.t d _ hd]
  simpa using hb

theorem wanted_none {ops : Array Oper} {o : Oper} {s : ASt} (h : o.guard = none) : wantedA ops o s = true := by
  unfold wantedA Region.wanted
  rw [h]

theorem wanted_some {ops : Array Oper} {o : Oper} {s : ASt} {j d : Nat} {b want : Bool} (h : o.guard = some (j, want)) (hj : (ops[j]?).bind (·.dst) = some d) (hd : s.t d = .bool b) (hb : (b == want) = true) : wantedA ops o s = true := by
  unfold wantedA Region.wanted
  rw [h]
  simp only [hj, hd]
  simpa using hb

/-- The operation is carried out: it bears no guard, or one that is met. -/
def Met (x : Cx) (L : Tmps) (ops : Array Oper) (gd : Option (Nat × Bool)) : Prop := ∀ s : ASt, Has s.t L → ∀ o : Oper, o.guard = gd → wantedA ops o s = true

theorem Met.none {ops : Array Oper} : Met x L ops none := fun s _ o h => wanted_none h
theorem Met.some {ops : Array Oper} {j e : Nat} {b want : Bool} (hj : (ops[j]?).bind (·.dst) = some e) (he : getT L e = some (.bool b)) (hb : (b == want) = true) : Met x L ops (some (j, want)) := fun s hs o h => wanted_some h hj (hs e _ he) hb

/-! ### 4. Calls -/
/-- A function's contract: from objects of which this is known it comes to a value and objects of which that is known. -/
def Spec (P : Program) (q : Bool) (f : FuncId) (args : Array Value) (O : Objs) (Post : Value → Objs → Prop) : Prop :=
  ∀ h, Sat h O → ∃ v h' O', Big P drv (.call f args h v h') ∧ Post v O' ∧ Sat h' O' ∧ (q = true → Old h h')

theorem Spec.weak {q : Bool} {f : FuncId} {args : Array Value} {Post : Value → Objs → Prop} (h : Spec P true f args O Post) : Spec P q f args O Post := fun g hg => by
  obtain ⟨v, h', O', a, b, c, d⟩ := h g hg
  exact ⟨v, h', O', a, b, c, fun _ => d rfl⟩

theorem Spec.mono {q : Bool} {f : FuncId} {args : Array Value} {Post Post' : Value → Objs → Prop} (h : Spec P q f args O Post) (hp : ∀ v O', Post v O' → Post' v O') : Spec P q f args O Post' := fun g hg => by
  obtain ⟨v, h', O', a, b, c, d⟩ := h g hg
  exact ⟨v, h', O', a, hp v O' b, c, d⟩

def putL : Option Tmp → Value → Tmps → Tmps
  | some d, v, L => (d, v) :: L
  | none, _, L => L

def fnOk (P : Program) (f : FuncId) : Bool := match P.funcs[f]? with
  | some fn => fn.body.isSome && fn.name != "runtime.NumGoroutine"
  | none => false

def evArgs (L : Tmps) : List Operand → Option (List Value)
  | [] => some []
  | y :: ys => match evL L y, evArgs L ys with
    | some v, some vs => some (v :: vs)
    | _, _ => none

theorem fnOk_of {f : FuncId} {fn : Func} (hf : P.funcs[f]? = some fn) (h : (fn.body.isSome && fn.name != "runtime.NumGoroutine") = true) : fnOk P f = true := by
  unfold fnOk
  rw [hf]
  exact h

/-- A call, whose objects stand after a rearrangement; flagged ones leave all as it was. -/
theorem WXL.call {ops : Array Oper} {mq : Mk} {i : Nat} {g : Operand} {as : Array Operand} {ts : Array TypeId} {dst : Option Tmp} {t : TypeId} {p : String} {af : Array Edge} {gd : Option (Nat × Bool)} {l : List Oper} {K : ASt → Prop}
    {f : FuncId} {first cap : Array Value} {vs : List Value} {q : Bool} {O1 : Objs} {Post : Value → Objs → Prop}
    (hw : Met x L ops gd)
    (hf : evL L g = some (.func (.func f) first cap)) (hok : fnOk P f = true) (ha : evArgs L as.toList = some vs) (hO : ∀ h, Sat h O → Sat h O1)
    (hq : q = true ∨ (mq.q i = false ∧ x.q = false ∧ mq.Z = [])) (hspec : Spec P q f (first.toList ++ vs ++ cap.toList).toArray O1 Post)
    (h : ∀ v O', Post v O' → WXL P x ops mq (i + 1) l (putL dst v L) O' K) :
    WXL P x ops mq i ({ dst := dst, op := .call { callee := .value g, args := as, argTypes := ts }, type := t, pos := p, after := af, guard := gd } :: l) L O K := by
  intro hdr hqk s hs hz
  obtain ⟨ho, hd'⟩ := drop_head hdr
  obtain ⟨v, h', O', b1, b2, b3, b4⟩ := hspec s.h (hO _ hs.sat)
  have hargs : as.map s.ev = vs.toArray := by
    have key : ∀ (l : List Operand) (vs : List Value), evArgs L l = some vs → l.map s.ev = vs := by
      intro l
      induction l with
      | nil => intro vs h; simp [evArgs] at h; subst h; rfl
      | cons y l ih =>
        intro vs h
        unfold evArgs at h
        split at h
        · rename_i v us h1 h2
          obtain rfl := Option.some.inj h
          rw [List.map_cons, ih us h2, hs.t.ev h1]
        · cases h
    apply Array.toList_inj.1
    rw [Array.toList_map, key _ _ ha]
  have hcal : acallee P { dst := dst, op := .call { callee := .value g, args := as, argTypes := ts }, type := t, pos := p, after := af, guard := gd } s = some (f, (first.toList ++ vs ++ cap.toList).toArray) := by
    have harr : first ++ vs.toArray ++ cap = (first.toList ++ vs ++ cap.toList).toArray := by apply Array.toList_inj.1; simp
    unfold acallee
    simp only [hs.t.ev hf, hargs, harr]
    unfold fnOk at hok
    split at hok
    · rename_i fn hfn
      rw [hfn]
      simp only [Bool.and_eq_true, bne_iff_ne, ne_eq] at hok
      simp only [hok.1, ne_eq, hok.2, not_false_eq_true, and_self, if_true]
    · cases hok
  have hold : q = true → Old s.h h' := b4
  have hst : St x (putL dst v L) O' (s.put dst v h') := by
    refine ⟨by rw [put_m]; exact hs.m, ?_, by rw [put_h]; exact b3, fun hx => ?_⟩
    · cases dst with
      | some d => exact hs.t.put _ _ _
      | none => exact hs.t
    · rw [put_h]
      rcases hq with hq | hq
      · exact (hs.old hx).trans (hold hq)
      · rw [hq.2.1] at hx; cases hx
  have hgrow := (wfJ b1 hs.sat.wf).2
  obtain ⟨s', g1, g2, g3⟩ := h v O' b2 hd' hqk _ hst (fun z hm => by rw [put_h]; exact Nat.lt_of_lt_of_le (hz z hm) hgrow)
  refine ⟨s', .opcall ho (hw s hs.t _ rfl) hcal b1 (fun hm => ?_) ?_ (fun z hm => ?_) g1, by rw [g2, put_m], g3⟩
  · rcases hq with hq | hq
    · exact hold hq
    · rw [hq.1] at hm; cases hm
  · cases hl : mq.lz i with
    | false => rfl
    | true => exact absurd ((flags_at hqk ho).2 hl) (by simp [isLoadOp])
  · rcases hq with hq | hq
    · exact (hold hq).2 z (hz z hm)
    · rw [hq.2.2] at hm; simp at hm

/-! ### 5. Functions -/
def argsL (args : List Value) (i : Nat) : Tmps := match args with
  | [] => []
  | v :: vs => (i, v) :: argsL vs (i + 1)

theorem has_args {t : Nat → Value} : ∀ (args : List Value) (i : Nat), (∀ j v, args[j]? = some v → t (i + j) = v) → Has t (argsL args i)
  | [], _, _ => .nil
  | v :: vs, i, h => .cons (h 0 v rfl) (has_args vs (i + 1) fun j u hu => by have := h (j + 1) u (by simpa using hu); rw [← this]; congr 1; omega)

def bodyW (P : Program) (fn : Func) (x : Cx) (Post : Value → Objs → Prop) : Exit → ASt → Prop
  | .normal, s | .ret, s => ∃ vs O', resultsA P fn s = some vs ∧ Post (tupleA vs) O' ∧ Sat s.h O' ∧ (x.q = true → Old x.h0 s.h)
  | _, _ => False

theorem Spec.enter {q : Bool} {f : FuncId} {fn : Func} {c : Code} {args : List Value} {m : Nat} {Post : Value → Objs → Prop} (hf : P.funcs[f]? = some fn) (hb : fn.body = some c) (hm : max fn.ntmps args.length = m) (hok : codeOk m c = true)
    (h : ∀ h0, WX P ⟨m, q, h0⟩ c (argsL args 0) O (bodyW P fn ⟨m, q, h0⟩ Post)) : Spec P q f args.toArray O Post := by
  intro g hg
  obtain ⟨e, s', h1, h2, h3⟩ := h g (enterA fn args.toArray g) ⟨by simpa [enterA] using hm, has_args args 0 fun j v hj => by simp [enterA, Array.getD_eq_getD_getElem?, hj], hg, fun _ => Old.refl g⟩ (by rw [show (enterA fn args.toArray g).m = m from by simpa [enterA] using hm]; exact hok)
  have key : (e = .normal ∨ e = .ret) ∧ ∃ vs O', resultsA P fn s' = some vs ∧ Post (tupleA vs) O' ∧ Sat s'.h O' ∧ (q = true → Old g s'.h) := by
    cases e with
    | normal => exact ⟨.inl rfl, h3⟩
    | ret => exact ⟨.inr rfl, h3⟩
    | _ => exact h3.elim
  obtain ⟨he, vs, O', k1, k2, k3, k4⟩ := key
  exact ⟨tupleA vs, s'.h, O', .call hf hb h1 he k1, k2, k3, k4⟩

def resL (L : Tmps) : List ResultVar → Option (List Value)
  | [] => some []
  | .tmp t :: rs => match getT L t, resL L rs with
    | some v, some vs => some (v :: vs)
    | _, _ => none
  | _ => none

theorem Has.res {s : ASt} (h : Has s.t L) : ∀ {rs : List ResultVar} {vs : List Value}, resL L rs = some vs → rs.mapM (resF P s) = some vs
  | [], vs, hr => by simp [resL] at hr; subst hr; rfl
  | .tmp t :: rs, vs, hr => by
    unfold resL at hr
    split at hr
    · rename_i v us h1 h2
      obtain rfl := Option.some.inj hr
      rw [List.mapM_cons, Has.res h h2]
      show (some (s.t t)).bind _ = _
      rw [h t v h1]
      rfl
    · cases hr
  | .cell _ _ :: rs, vs, hr => by simp [resL] at hr

theorem Fin.result {fn : Func} {Post : Value → Objs → Prop} {rs : List ResultVar} {vs : List Value} {e : Exit} (he : e = .normal ∨ e = .ret) (hr : fn.results.toList = rs) (hv : resL L rs = some vs) (hO : ∀ h, Sat h O → Sat h O') (hp : Post (tupleA vs) O') :
    Fin x L O e (bodyW P fn x Post) := by
  intro s hs
  have : ∃ vs O', resultsA P fn s = some vs ∧ Post (tupleA vs) O' ∧ Sat s.h O' ∧ (x.q = true → Old x.h0 s.h) :=
    ⟨vs, O', by unfold resultsA; rw [hr]; exact hs.t.res hv, hp, hO _ hs.sat, hs.old⟩
  rcases he with rfl | rfl <;> exact this

/-- Less is known: slots by their values, objects by their places. -/
theorem St.less {s : ASt} {L' : Tmps} (hs : St x L O s) (hL : ∀ t, Has t L → Has t L') (is : List Nat) (n : Nat) (hnd : is.Nodup) (hlt : ∀ i ∈ is, i < n) (hO : Eng.pick O is ++ O.drop n = O') : St x L' O' s :=
  ⟨hs.m, hL _ hs.t, by rw [← hO]; exact hs.sat.pick is n hnd hlt, hs.old⟩

def Told (L : Tmps) : Tmps → Prop
  | [] => True
  | q :: L' => getT L q.1 = some q.2 ∧ Told L L'

theorem Has.told {t : Nat → Value} {L : Tmps} (h : Has t L) : ∀ {L' : Tmps}, Told L L' → Has t L'
  | [], _ => .nil
  | (d, v) :: L', ht => .cons (h d v ht.1) (Has.told h ht.2)

theorem St.told {s : ASt} (hs : St x L O s) {L' : Tmps} (hL : Told L L') (is : List Nat) (n : Nat) (hnd : is.Nodup) (hlt : ∀ i ∈ is, i < n) (hO : Eng.pick O is ++ O.drop n = O') : St x L' O' s :=
  ⟨hs.m, hs.t.told hL, by rw [← hO]; exact hs.sat.pick is n hnd hlt, hs.old⟩

theorem Has.take {t : Nat → Value} {L L' : Tmps} {d : Nat} {v : Value} (h : Has t L) (hd : getT L d = some v) (h' : Has t L') : Has t ((d, v) :: L') := .cons (h d v hd) h'

end Go.Proofs.Ytjmklialkjncaaa.Eng
