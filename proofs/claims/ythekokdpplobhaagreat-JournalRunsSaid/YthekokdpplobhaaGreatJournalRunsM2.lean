/- A run of the abstract machine is a run of the model: code and calls. | A stretch of operations none of which turns an object, in whatever order. | One operation of a quiet stretch, whenever it comes up. | Regions that draw their order: what is checked of them, and the walk over all orders. | Regions that draw their order: every order comes to what the text's order comes to. | Regions that draw their order: the theorem. | Symbolic runs of the abstract machine: what is known of the slots and of the objects, and the rules of code. | Symbolic runs: the rules of code, regions, loops and calls. | Symbolic runs: the rules of operations on numbers, slots and rows. | Symbolic runs: the rules of operations on the memory. | Lists in cells: what the rules' side conditions want. | Symbolic runs: rows of which only their elements are known. | Symbolic runs: rows that grow, results that lie in cells. | What came in is never written, and no run looks at whether it could be: functions that write to objects of their own leave all others alone. | The rules of operations in short form: what a side condition wants is found by itself. | Short rules, continued: appends to a row of one's own, the first elements of a row; contracts that leave all as it was. Own work; no condition. -/
import Derived.Test.YthekokdpplobhaaGreatJournalRunsM1
set_option linter.unusedVariables false
set_option linter.unusedSimpArgs false
namespace Go.Proofs.YthekokdpplobhaaGreat.Eng
variable {P : Program} {base : Nat} {ι ι1 ι2 : Lay} {h h' h1 h2 : ai} {w w1 w2 : World}
theorem kS {F : Fence} {n : Nat} {Q : Exit → Act → World → Prop} {a : Act} {w : World} {c : Code} (h : c.wpIn F n P (Exit.noGoto Q) a w) : (Code.scope c).wpIn F n P Q a w := by
 intro b k cs hro hb hr
 have h0 : (lone (b.atR a (.code (.scope c) :: k)) cs w).fenced P F := fenced_calm hb hr rfl
 have step1 : step P (lone (b.atR a (.code (.scope c) :: k)) cs w) = .next (lone (b.atR a (.code c :: .inScope c :: k)) cs w) := step_lone_go (by simp [stepG, stepG.exec, Frame.atR])
 have step2 : ∀ a w, step P (lone (b.atR a (.inScope c :: k)) cs w) = .next (lone (b.atR a k) cs w) := fun a w => step_lone_go (by simp [stepG, stepG.exec, Frame.atR])
 obtain ⟨e, a₁, w₁, hq, harr⟩ := h b (.inScope c :: k) cs hro hb hr
 cases e with
 | normal => exact ⟨.normal, a₁, w₁, hq, .head h0 step1 (StepsIn.trans harr (.one (fenced_calm hb hr rfl) (step2 _ _)))⟩
 | exit id =>
  have hx : exitTo id (.inScope c :: k) = exitTo id k := by simp [exitTo]
  exact ⟨.exit id, a₁, w₁, hq, fun k' hk => .head h0 step1 (harr.1 k' (by rw [hx]; exact hk)), fun hr' hk => let ⟨k₁, h1, h2⟩ := harr.2 hr' (by rw [hx]; exact hk); ⟨k₁, h1, .head h0 step1 h2⟩⟩
 | goto l => exact hq.elim
 | ret => exact ⟨_, a₁, w₁, hq, .of_steps (.one h0 step1) harr⟩
 | panic ch => exact ⟨_, a₁, w₁, hq, .of_steps (.one h0 step1) harr⟩
 | outgrown => exact ⟨_, a₁, w₁, hq, .of_steps (.one h0 step1) harr⟩
theorem bw.world (hm : bw base ι ι1 h h1 w) (hs : w1.heap.size = w.heap.size) : bw base ι ι1 h h1 w1 :=
 ⟨hm.old, fun b e hb he => by rw [hs]; exact hm.new b e hb he, hm.mH, hm.full, hm.mw, hm.grow⟩
theorem bg.put (hk : bg ι h h1 w w1) {D : Nat} (hD : w.heap.size ≤ D) (o : Obj) : bg ι h h1 w (w1.putObj D o) := by
 refine ⟨hk.os, hk.tape, hk.output, by rw [World.putObj_size]; exact hk.size, fun B hB hall => ?_, fun B off v hc hall => ?_, fun B off v hc => ?_⟩
 · rw [World.putObj_heap_other (by omega)]; exact hk.block B hB hall
 · have := fp hc
   rw [eo (by omega)]; exact hk.cell B off v hc hall
 · have := fp hc
   rw [eo (by omega), gu (by omega)]; exact hk.there B off v hc
theorem bg.round {E : Nat} {l : Loop} {o : Obj} (hE : w.heap[E]? = some (.loop l)) (hk : bg ι h h1 (w.putObj E o) w1) : bg ι h h1 w (w1.putObj E (.loop l)) := by
 have hlt : E < w.heap.size := (Array.getElem?_eq_some_iff.1 hE).1
 have hlt1 : E < w1.heap.size := by have := hk.size; rw [World.putObj_size] at this; omega
 have ne : ∀ {B off v}, w.cell? ⟨B, off, none⟩ = some v → B ≠ E := by
  intro B off v hc e
  subst e
  unfold World.cell? at hc
  simp only [hE] at hc
  cases hc
 refine ⟨hk.os, hk.tape, hk.output, by rw [World.putObj_size]; have := hk.size; rw [World.putObj_size] at this; exact this, fun B hB hall => ?_, fun B off v hc hall => ?_, fun B off v hc => ?_⟩
 · by_cases e : B = E
   · subst e; rw [World.putObj_heap_same hlt1, hE]
   · rw [World.putObj_heap_other e, hk.block B (by rw [World.putObj_size]; exact hB) hall, World.putObj_heap_other e]
 · have hn := ne hc
   rw [eo hn]
   exact hk.cell B off v (by rw [eo hn]; exact hc) hall
 · have hn := ne hc
   rw [eo hn, gu hn]
   have := hk.there B off v (by rw [eo hn]; exact hc)
   rw [gu hn] at this
   exact this
theorem db.del {ρ : dV} (hc : db ρ ι h w) (b : Nat) : db (ρ.del b) ι h w := by
 have sub : ∀ {i c}, (ρ.del b).c i = some c → ρ.c i = some c := fun {i c} hi => by
  unfold dV.del at hi
  simp only at hi
  split at hi
  · cases hi
  · exact hi
 exact ⟨fun i c hi => hc.wi i c (sub hi), fun b1 b2 c1 c2 e1 e2 h1 h2 => hc.inj b1 b2 c1 c2 e1 e2 (sub h1) (sub h2)⟩
theorem db.put {ρ : dV} (hc : db ρ ι h w) {b : Nat} {c : qM} {e : Ext} (hb : ρ.c b = some c) (he : ι b = some e) (o : Obj) : db (ρ.del b) ι h (w.putObj e.block o) := by
 refine ⟨fun i ci hi => ?_, (hc.del b).inj⟩
 obtain ⟨e1, fn, tmps, D, q1, q2, q3, q4, q5⟩ := (hc.del b).wi i ci hi
 refine ⟨e1, fn, tmps, D, q1, q2, ?_, q4, q5⟩
 have hib : i ≠ b ∧ ρ.c i = some ci := by
  unfold dV.del at hi
  simp only at hi
  split at hi
  · cases hi
  · rename_i q; exact ⟨q, hi⟩
 rw [World.putObj_heap_other fun q => hib.1 (hc.inj i b ci c e1 e hib.2 hb q1 he q)]
 exact q3
theorem sd (l : List (Tmp × Value)) (t : Array Value) : (l.foldl (fun t (p : Tmp × Value) => t.setIfInBounds p.1 p.2) t).size = t.size := by
 induction l generalizing t with
 | nil => rfl
 | cons p l ih => rw [List.foldl_cons, ih, Array.size_setIfInBounds]
theorem sv {ps : List Tmp} {m : Nat} : ∀ {xs ys : List Value} {t : Nat → Value} {t' : Array Value}, (∀ p ∈ ps, p < m) → t'.size = m → xs.length = ps.length → ys.length = ps.length →
  (∀ (i : Nat) x y, xs[i]? = some x → ys[i]? = some y → aP ι x y) → (∀ i, aP ι (t i) (t'.getD i undef)) →
  ∀ i, aP ι (gH (ps.zip xs) t i) (((ps.zip ys).foldl (fun t (p : Tmp × Value) => t.setIfInBounds p.1 p.2) t').getD i undef) := by
 induction ps with
 | nil => intro xs ys t t' _ _ _ _ _ ht i; exact ht i
 | cons p ps ih =>
  intro xs ys t t' hp hm hx hy hr ht i
  match xs, ys, hx, hy with
  | x :: xs, y :: ys, hx, hy =>
   simp only [List.zip_cons_cons, List.foldl_cons, gH]
   refine ih (fun q hq => hp q (List.mem_cons_of_mem _ hq)) (by rw [Array.size_setIfInBounds]; exact hm) (by simpa using hx) (by simpa using hy) (fun j u v hu hv => hr (j + 1) u v (by simpa using hu) (by simpa using hv)) (fun j => ?_) i
   have hpm := hp p (List.mem_cons_self ..)
   rw [Array.getD_eq_getD_getElem?, Array.getElem?_setIfInBounds]
   by_cases e : j = p
   · rw [if_pos e, if_pos e.symm, if_pos (show p < t'.size by rw [hm]; exact hpm)]
     exact hr 0 x y rfl rfl
   · rw [if_neg e, if_neg (fun q => e q.symm), ← Array.getD_eq_getD_getElem?]
     exact ht j
theorem cF.yield {ρ : dV} {o : Oper} {s s1 s2 : bN} {b : Nat} {args : Array Value} {c : qM} (hy : jq o s = some (b, args)) (hc0 : ρ.c b = some c) (hn : args.size = c.ps.size) (hps : ∀ t ∈ c.ps, t < c.m)
  (h1 : nS P (ρ.del b) c.assign ⟨c.m, gH (c.ps.zip args).toList c.t, s.h⟩ .normal s1) (h2 : nS P (ρ.del b) c.body s1 .normal s2) : cF P ρ (fun x y _ => y = x) o s (.bool true) s2.h := by
 intro r base ι a w K Q hr hb hctx hx hk
 unfold jq at hy
 obtain ⟨dst, op, type, pos, after, guard⟩ := o
 simp only at hy hx
 split at hy
 · rename_i g gargs gt
   split at hy
   · rename_i b0 first captured hg
     injection hy with hy; injection hy with e1 e2; subst e1 e2
     have hrel := hx g (by simp [Op.operands, Call.operands])
     rw [hg] at hrel
     generalize hga : a.eval g = vg at hrel
     cases hrel with
     | atom q => simp [aX] at q
     | wI hbe =>
      rename_i e'
      obtain ⟨e, fn, tmps, D, q1, q2, q3, q4, q5⟩ := hctx.wi b0 c hc0
      obtain rfl := Option.some.inj (q1.symm.trans hbe)
      have hargs : fS ι (gargs.map s.ev) (gargs.map a.eval) := fS.map fun x hxx => hx x (by simp [Op.operands, Call.operands, hxx])
      have hlt := hr.gG b0 e q1
      have hyr := run_yield (P := P) (args := gargs.map a.eval) q3 (by simpa using hn)
      refine ⟨fun _ _ => trivial, ?_⟩
      rw [Oper.semAt_eq _ _ _ (fun c hc => by cases hc)]
      have hrun : (execOp a.eval { dst := dst, op := .call { callee := .value g, args := gargs, argTypes := gt }, type := type, pos := pos, after := after, guard := guard }).run P w = (Instr.yield e.block (gargs.map a.eval)).run P w := by
       simp only [execOp, resolve, hga, Deferred.ofValue, Sem.run_bind, Sem.run_pure, Result.andThen_ok, invoke, Array.empty_append, Array.append_empty]
      rw [hrun, hyr]
      simp only [Oper.uponIn]
      refine ⟨fun hd => by simp [FR, Fence.wide] at hd, ?_⟩
      refine roundIn_of_wpIn (F := FR r) trivial ?_
      refine h1.2.2.1 (some e.block) base ι _ w _ (fun hd => by cases hd) ⟨?_, ?_, hr, hb⟩ (hctx.del b0) fun ι1 a1 w1 ds1 t1 m1 k1 _ _ => ?_
      · show (Array.foldl (fun (t : Array Value) (p : Tmp × Value) => t.setIfInBounds p.1 p.2) tmps (c.ps.zip (gargs.map a.eval))).size = _
        rw [← Array.foldl_toList]
        exact (sd _ _).trans q4
      · intro i
        show aP ι (gH (c.ps.zip (gargs.map s.ev)).toList c.t i) ((Array.foldl (fun (t : Array Value) (p : Tmp × Value) => t.setIfInBounds p.1 p.2) tmps (c.ps.zip (gargs.map a.eval))).getD i undef)
        rw [← Array.foldl_toList, Array.toList_zip, Array.toList_zip]
        exact sv (fun p hp => hps p (Array.mem_toList_iff.1 hp)) q4 (by simpa using hn) (by simpa using hn) (fun j x y hx hy => hargs.2 j x y (by simpa using hx) (by simpa using hy)) q5 i
      · have q6 : w1.heap[e.block]? = _ := (q2.aq hr m1 k1 hlt).trans q3
        have hc1 := hctx.more hr m1 k1
        have hoff1 := q2.more hr m1 hlt
        have hι1 : ι1 b0 = some e := bw.lay hr m1 _ _ q1
        refine ⟨_, run_beginRound q6 rfl, ?_⟩
        refine h2.2.2.1 (some e.block) base ι1 a1 _ _ (fun hd => by cases hd) ⟨t1.size, t1.tmps, t1.heap.put hoff1 _, by rw [World.putObj_size]; exact t1.base⟩ (hc1.put hc0 hι1 _) fun ι2 a2 w3 ds2 t2 m2 k2 _ _ => ?_
        have hlt1 : e.block < w1.heap.size := (Array.getElem?_eq_some_iff.1 q6).1
        have hoff2 := hoff1.more (t1.heap.put hoff1 _) m2 (by rw [World.putObj_size]; exact hlt1)
        have q7 := (hoff1.aq (t1.heap.put hoff1 _) m2 k2 (by rw [World.putObj_size]; exact hlt1)).trans (World.putObj_heap_same hlt1)
        refine ⟨_, _, run_endRound none q7, ?_⟩
        have m3 := m2.world (w1 := w1) (by rw [World.putObj_size])
        have k3 := bg.round q6 k2
        exact hk ι2 (.bool true) _ (bw.trans hr t1.heap m1 m3 k1.size) (.atom rfl) (t2.heap.put hoff2 _) (bg.trans hr t1.heap m1 m3 k1 k3)
   · cases hy
 · cases hy
theorem pn {o : Oper} {s : bN} {t : TypeId} {x : Operand} {b off sz : Nat} {ro : Bool} {f k : Nat} {c : List Value} {v : Value} {g : ai} (hop : o.op = .load t x) (hx : s.ev x = .pointer (some ⟨b, off, none⟩)) (hb : s.h.o b = .cells sz ro f none k c)
  (ha : eg P o s = some (v, s.h)) (hg : dh (g.o b) (s.h.o b)) : eg P o { s with h := g } = some (v, g) := by
 obtain ⟨ro', f', k', hg'⟩ := (hg sz c).2 ⟨ro, f, k, hb⟩
 unfold eg at ha ⊢
 rw [hop] at ha ⊢
 simp only [kG] at ha ⊢
 rw [hx] at ha ⊢
 simp only at ha ⊢
 unfold gN ai.rd at ha ⊢
 rw [hb] at ha
 rw [hg']
 simp only at ha ⊢
 obtain ⟨u, h1, h2⟩ := Option.map_eq_some_iff.1 ha
 rw [h1]
 simp only [Option.map_some, Option.some.injEq, Prod.mk.injEq, and_true] at h2 ⊢
 exact h2
def sN (P : Program) (ops : Array Oper) (mq lz : Nat → Bool) : Prop :=
 ∀ Z s s', fG ops s.m = true → hY P .none ops mq lz Z (List.range ops.size) s s' → ∀ id r base ι (a : Act) (w : World) (Q : Exit → Act → World → Prop), eK base ι s a w →
  (∀ ι' a' w', eK base ι' s' a' w' → bw base ι ι' s.h s'.h w → bg ι s.h s'.h w w' → a'.defers = a.defers → Q .normal a' w') → (Code.region id ops true).wpIn (FR r) 0 P Q a w
def xG (P : Program) (ρ : dV) : J → Prop
 | .code c s e s' => nS P ρ c s e s'
 | .ops ops mq lz Z todo s s' => hY P ρ ops mq lz Z todo s s'
 | .call f args h v h' => iA P ρ f args h v h'
 | .jK c s s' g lb => s'.m = s.m ∧ ∀ base ι (a : Act) (w : World) (Q : Exit → Act → World → Prop), ρ.r = false → eK base ι s a w → db ρ ι s.h w →
     (∀ ι' a' w' ds1 ds2 lb', eK base ι' s' a' w' → bw base ι ι' s.h s'.h w → bg ι s.h s'.h w w' → a'.defers = ds2 ++ { target := .fn (.func g) lb', args := #[] } :: (ds1 ++ a.defers) → fO ρ w.heap.size ι' s'.h w' (ds2 ++ ds1) → fS ι' lb lb' → Q .normal a' w' ∧ Q .ret a' w') →
     c.wpIn (FR none) 0 P Q a w
theorem eK.more {s s' : bN} {a a' : Act} (hs : eK base ι s a w) (hm : bw base ι ι1 s.h s'.h w) (hk : bg ι s.h s'.h w w1) (hs1 : eK base ι1 s' a' w1) {s2 : bN} {w2 : World} {ι2 : Lay}
  (hm2 : bw base ι1 ι2 s'.h s2.h w1) (hk2 : bg ι1 s'.h s2.h w1 w2) : bw base ι ι2 s.h s2.h w ∧ bg ι s.h s2.h w w2 :=
 ⟨bw.trans hs.heap hs1.heap hm hm2 hk.size, bg.trans hs.heap hs1.heap hm hm2 hk hk2⟩
theorem sZ {K : Act → World → Prop} {Q : Exit → Act → World → Prop} {e : Exit} {a : Act} {w : World} (he : e ≠ .normal) (hq : Q e a w) : Exit.then K Q e a w := by
 cases e <;> first | exact hq | exact absurd rfl he
def zj : J → Prop
 | .code _ s _ s' => WF s.h → WF s'.h ∧ s.h.n ≤ s'.h.n
 | .ops _ _ _ _ _ s s' => WF s.h → WF s'.h ∧ s.h.n ≤ s'.h.n
 | .call _ _ h _ h' => WF h → WF h' ∧ h.n ≤ h'.n
 | .jK _ s s' _ _ => WF s.h → WF s'.h ∧ s.h.n ≤ s'.h.n
theorem ma.wf {h h' : ai} (hs : ma h h') (hh : WF h) : WF h' ∧ h.n ≤ h'.n := by
 rcases hs with rfl | ⟨sz, c, rfl⟩ | ⟨b, sz, f, k, c, c', ho, rfl⟩
 · exact ⟨hh, Nat.le_refl _⟩
 · exact ⟨hh.new _ _ _, Nat.le_succ _⟩
 · exact ⟨hh.set ho _ _, Nat.le_refl _⟩
theorem sV (h : ai) : h.un (fun _ => false) = h := by
 cases h
 rfl
theorem yQ {dr : Array Oper → (Nat → Bool) → (Nat → Bool) → Prop} {ρ : dV} {j : J} (hb : ee P dr ρ j) : zj j := by
 have tr : ∀ {a b c : ai}, (WF a → WF b ∧ a.n ≤ b.n) → (WF b → WF c ∧ b.n ≤ c.n) → (WF a → WF c ∧ a.n ≤ c.n) := fun f g h => ⟨(g (f h).1).1, Nat.le_trans (f h).2 (g (f h).1).2⟩
 induction hb with
 | skip | label | exit | ret | nil => exact fun h => ⟨h, Nat.le_refl _⟩
 | region _ _ ih => exact ih
 | draw _ _ _ ih => exact ih
 | kV _ _ ih1 ih2 => exact tr ih1 ih2
 | kZ _ _ ih => exact ih
 | jz _ _ _ ih => exact ih
 | jd _ _ _ ih => exact ih
 | gP _ _ ih => exact ih
 | gR _ ih => exact ih
 | jk _ _ ih1 ih2 => exact tr ih1 ih2
 | jn _ _ ih => exact ih
 | scope _ ih => exact ih
 | op _ _ ha _ _ _ _ ih =>
  intro h
  have h1 := kh ha h
  have h2 := ih (by rw [bk]; exact h1.1)
  rw [bk] at h2
  exact ⟨h2.1, Nat.le_trans h1.2 h2.2⟩
 | l8 _ _ ha _ _ _ _ ih =>
  intro h
  have h1 := sG ha h
  have h2 := ih (by rw [bk]; exact h1.1)
  rw [bk] at h2
  exact ⟨h2.1, Nat.le_trans h1.2 h2.2⟩
 | jm _ _ ha hs _ _ _ _ ih =>
  intro h
  have h1 := kh ha h
  have h3 := h1.1.vK hs h1.2 fun b sz ro f st k c ho => h.lt ho
  have hn : _ ≤ _ := Nat.le_trans h1.2 (Nat.le_of_eq hs.n.symm)
  have h2 := ih (by rw [bk]; exact h3)
  rw [bk] at h2
  exact ⟨h2.1, Nat.le_trans hn h2.2⟩
 | jY _ _ _ _ _ _ _ _ _ ih | iy _ _ _ _ _ _ _ _ _ ih =>
  intro h
  have h2 := ih (by rw [bk]; exact h)
  rw [bk] at h2
  exact h2
 | jH _ _ _ _ _ _ _ _ ih1 ih2 =>
  intro h
  have h1 := ih1 h
  have h2 := ih2 (by rw [bk]; exact h1.1)
  rw [bk] at h2
  exact ⟨h2.1, Nat.le_trans h1.2 h2.2⟩
 | iH _ _ _ ih =>
  intro h
  have h2 := ih (by rw [bk]; exact h)
  rw [bk] at h2
  exact h2
 | call _ _ _ _ _ ih => exact ih
 | direct hd => exact hd.1.wf
 | pF _ _ ih1 ih2 => exact tr ih1 ih2
 | mh _ _ _ _ _ _ _ _ _ _ _ ih1 ih2 => exact tr ih1 ih2
 | j8 _ _ _ _ _ _ _ _ _ _ ih1 ih2 => exact tr ih1 ih2
 | @rangeFunc ρ g ps assign body s gf lb v h' _ _ _ _ _ _ ih =>
  intro h
  have hb : WF s.h.fm := ⟨fun b sz ro f m k c ho => by
   obtain ⟨q1, q2⟩ := h.wf b sz ro f m k c ho
   exact ⟨Nat.lt_succ_of_lt q1, q2⟩, h.jw, h.uniq, fun b hb => h.out b (Nat.le_of_succ_le hb)⟩
  obtain ⟨q1, q2⟩ := ih hb
  exact ⟨q1, Nat.le_trans (Nat.le_succ _) q2⟩
 | gQ _ _ _ _ _ _ _ _ _ _ _ _ ih1 ih2 ih3 =>
  intro h
  have h1 := ih1 h
  have h2 := ih2 h1.1
  have h3 := ih3 (by rw [bk]; exact h2.1)
  rw [bk] at h3
  exact ⟨h3.1, Nat.le_trans h1.2 (Nat.le_trans h2.2 h3.2)⟩
theorem fQ {B off : Nat} (hb : w1.heap[B]? = w.heap[B]?) : w1.cell? ⟨B, off, none⟩ = w.cell? ⟨B, off, none⟩ ∧ w1.frozen? ⟨B, off, none⟩ = w.frozen? ⟨B, off, none⟩ := by
 unfold World.cell? World.frozen?
 simp only [hb]
 exact ⟨trivial, trivial⟩
theorem bn.fm (hr : bn base ι h w) (hs : w.heap.size ≤ w1.heap.size) (hb : ∀ B, B < w.heap.size → w1.heap[B]? = w.heap[B]?) {e : Ext} (he : e.block < w1.heap.size) (he0 : w.heap.size ≤ e.block) :
  bn base (fun b => if b = h.n then some e else ι b) h.fm w1 := by
 have old : ∀ {b e'}, (if b = h.n then some e else ι b) = some e' → h.o b ≠ .dead → ι b = some e' := fun {b e'} q hd => by
  by_cases hn : b = h.n
  · exact absurd (hr.out b (by omega)) hd
  · rw [if_neg hn] at q; exact q
 have live : ∀ {b sz ro f st k c}, h.o b = .cells sz ro f st k c → h.o b ≠ .dead := fun q => by rw [q]; intro q2; cases q2
 refine ⟨fun b e' q => ?_, fun b e' q => ?_, fun b e' sz ro f st k c q q2 => hr.na b e' sz ro f st k c (old q (live q2)) q2, fun b e' c i v q hmp hc hv => ?_, fun b e' sz f st k c i q hc hi => ?_,
  fun b1 e1 b2 e2 bP ro1 f1 st1 k1 c1 fk f2 st2 k2 c2 q1 q2 o1 o2 => hr.apart b1 e1 b2 e2 bP ro1 f1 st1 k1 c1 fk f2 st2 k2 c2 (old q1 (live o1)) (old q2 (live o2)) o1 o2,
  fun b1 e1 b2 e2 f bP ro1 st1 k1 c1 fk ro2 st2 k2 c2 q1 q2 o1 o2 => hr.link b1 e1 b2 e2 f bP ro1 st1 k1 c1 fk ro2 st2 k2 c2 (old q1 (live o1)) (old q2 (live o2)) o1 o2,
  fun b sz ro f m k c ho => ?_, hr.jw, hr.uniq, fun b hb => hr.out b (Nat.le_of_succ_le hb), fun b e' sz ro f st k c q hmp ho => ?_⟩
 · show b < h.n + 1
   by_cases hn : b = h.n
   · omega
   · rw [if_neg hn] at q; have := hr.lt b e' q; omega
 · by_cases hn : b = h.n
   · rw [if_pos hn] at q; obtain rfl := Option.some.inj q; exact he
   · rw [if_neg hn] at q; have := hr.gG b e' q; omega
 · have q1 := old q (tj (h := h) hc)
   rw [(fQ (hb _ (hr.gG b e' q1))).1]
   obtain ⟨v', q2, q3⟩ := hr.val b e' c i v q1 hmp hc hv
   refine ⟨v', q2, q3.mono fun b' e2 hb2 => ?_⟩
   show (if b' = h.n then some e else ι b') = some e2
   rw [if_neg (by have := hr.lt b' e2 hb2; omega)]
   exact hb2
 · have q1 := old q (live hc)
   rw [(fQ (hb _ (hr.gG b e' q1))).1, (fQ (hb _ (hr.gG b e' q1))).2]
   exact hr.room b e' sz f st k c i q1 hc hi
 · obtain ⟨q1, q2⟩ := hr.wf b sz ro f m k c ho
   exact ⟨Nat.lt_succ_of_lt q1, q2⟩
 · have q1 := old q (live ho)
   obtain ⟨g2, g3⟩ := hr.maps b e' _ _ _ _ _ _ q1 hmp ho
   have hbl := hr.gG b e' q1
   refine ⟨fun b' e2 hb2 hB => ?_, (g3.world (hb _ hbl)).mono fun b' e2 hb2 => ?_⟩
   · by_cases hn : b' = h.n
     · rw [if_pos hn] at hb2; obtain rfl := Option.some.inj hb2; omega
     · rw [if_neg hn] at hb2; exact g2 b' e2 hb2 hB
   · show (if b' = h.n then some e else ι b') = some e2
     rw [if_neg (by have := hr.lt b' e2 hb2; omega)]
     exact hb2
theorem bw.fm (hr : bn base ι h w) {e : Ext} (he : w.heap.size ≤ e.block) : bw base ι (fun b => if b = h.n then some e else ι b) h h.fm w := by
 refine ⟨fun b hb => if_neg (by omega), fun b e' hb q => .inl ?_, fun b sz ro f st k c hb ho => ?_, fun b h1 h2 => ⟨e, if_pos (by have : b < h.n + 1 := h2; omega)⟩, fun b hb => lu.refl _, Nat.le_succ _⟩
 · by_cases hn : b = h.n
   · simp only [hn, if_true] at q; obtain rfl := Option.some.inj q; exact he
   · simp only [if_neg hn] at q; have := hr.lt b e' q; omega
 · have : h.o b = .cells sz ro f st k c := ho
   rw [hr.out b hb] at this; cases this
theorem bg.grow (hos : w1.os = w.os) (htape : w1.tape = w.tape) (hout : w1.output = w.output) (hs : w.heap.size ≤ w1.heap.size) (hb : ∀ B, B < w.heap.size → w1.heap[B]? = w.heap[B]?) : bg ι h h1 w w1 :=
 ⟨hos, htape, hout, hs, fun B hB _ => hb B hB, fun B off v hc _ => by rw [(fQ (hb B (fp hc))).1]; exact hc, fun B off v hc => ⟨⟨v, by rw [(fQ (hb B (fp hc))).1]; exact hc⟩, (fQ (hb B (fp hc))).2⟩⟩
theorem j7 {fn : Func} {tmps : Array Value} {R : Ending → World → Prop} (Iw : World → Prop) (rest : List Deferred) (hI : ∀ w, Iw w → LeavesInM (FR none) 0 P fn tmps R rest .returning w) :
  ∀ (ds : List Deferred) (w : World), Iw w → (∀ d ∈ ds, ∃ D, d = { target := .collected D, args := #[] } ∧ w.heap[D]? = some (.deferred (some [])) ∧ ∀ w', Iw w' → Iw (w'.putObj D (.deferred none))) → ds.Pairwise (fun d e => d.target ≠ e.target) →
  LeavesInM (FR none) 0 P fn tmps R (ds ++ rest) .returning w
 | [], w, hw, _, _ => hI w hw
 | d :: ds, w, hw, hd, hp => by
  obtain ⟨D, rfl, q1, q2⟩ := hd d (List.mem_cons_self ..)
  have hp' := List.pairwise_cons.1 hp
  refine ⟨fun q => (by cases q), .inl ⟨D, _, rfl, run_takeDeferred q1, j7 Iw rest hI ds _ (q2 w hw) (fun d' hd' => ?_) hp'.2⟩⟩
  obtain ⟨D', rfl, r1, r2⟩ := hd d' (List.mem_cons_of_mem _ hd')
  refine ⟨D', rfl, ?_, r2⟩
  rw [World.putObj_heap_other fun e => hp'.1 _ hd' (by rw [e])]
  exact r1
theorem mv {fn : Func} {tmps : Array Value} {R : Ending → World → Prop} (Iw : World → Prop) (hI : ∀ w, Iw w → ∃ v, (results fn tmps).run P w = .ok v w ∧ R (.returned v) w)
  (ds : List Deferred) (w : World) (hw : Iw w) (h1 : ∀ d ∈ ds, ∃ D, d = { target := .collected D, args := #[] } ∧ w.heap[D]? = some (.deferred (some [])) ∧ ∀ w', Iw w' → Iw (w'.putObj D (.deferred none))) (h2 : ds.Pairwise (fun d e => d.target ≠ e.target)) :
  LeavesInM (FR none) 0 P fn tmps R ds .returning w := by
 have := j7 (P := P) (fn := fn) (tmps := tmps) (R := R) Iw [] hI ds w hw h1 h2
 rwa [List.append_nil] at this
theorem db.late (_ : db dV.none ι h w) : db dV.late ι h w := ⟨fun b c hc => (by cases hc), fun b1 b2 c1 c2 e1 e2 hc => (by cases hc)⟩
theorem kI {fn : Func} {args args' : Array Value} (hr : bn base ι h w) (hb : base ≤ w.heap.size) (ha : fS ι args args') :
  eK base ι (cz fn args h) { tmps := args' ++ Array.replicate (fn.ntmps - args'.size) undef, defers := [] } w := by
 refine ⟨?_, fun i => ?_, hr, hb⟩
 · simp [cz, ha.1]; omega
 · show aP ι (args.getD i undef) ((args' ++ Array.replicate (fn.ntmps - args'.size) undef).getD i undef)
   rw [Array.getD_eq_getD_getElem?, Array.getD_eq_getD_getElem?]
   rcases Nat.lt_or_ge i args.size with hi | hi
   · rw [Array.getElem?_append_left (by rw [ha.1]; exact hi), Array.getElem?_eq_getElem hi, Array.getElem?_eq_getElem (by rw [ha.1]; exact hi)]
     exact ha.2 i _ _ (Array.getElem?_eq_getElem hi) (Array.getElem?_eq_getElem (by rw [ha.1]; exact hi))
   · rw [Array.getElem?_append_right (by rw [ha.1]; exact hi), Array.getElem?_eq_none hi]
     have : ((Array.replicate (fn.ntmps - args'.size) undef)[i - args'.size]?).getD undef = undef := by
      cases hx : (Array.replicate (fn.ntmps - args'.size) undef)[i - args'.size]? with
      | none => rfl
      | some x =>
       have := Array.mem_of_getElem? hx
       simp at this
       rw [this.2]; rfl
     rw [this]
     exact aP.undef
theorem sound {dr : Array Oper → (Nat → Bool) → (Nat → Bool) → Prop} (hdr : ∀ ops mq lz, dr ops mq lz → sN P ops mq lz) {ρ : dV} {j : J} (hb : ee P dr ρ j) : xG P ρ j := by
 induction hb with
 | skip => exact ⟨.inl rfl, rfl, fun r base ι a w Q _ hs hc hq => wpIn_skip (hq ι a w [] hs (bw.refl hs.heap) (eL.zero (dE.refl ι _ w)) rfl .nil), fun c0 h => by cases h⟩
 | label => exact ⟨.inl rfl, rfl, fun r base ι a w Q _ hs hc hq => wpIn_label (hq ι a w [] hs (bw.refl hs.heap) (eL.zero (dE.refl ι _ w)) rfl .nil), fun c0 h => by cases h⟩
 | exit => exact ⟨.inr (.inr ⟨_, rfl⟩), rfl, fun r base ι a w Q _ hs hc hq => wpIn_exit (hq ι a w [] hs (bw.refl hs.heap) (eL.zero (dE.refl ι _ w)) rfl .nil), fun c0 h => by cases h⟩
 | ret => exact ⟨.inr (.inl rfl), rfl, fun r base ι a w Q _ hs hc hq => wpIn_ret (hq ι a w [] hs (bw.refl hs.heap) (eL.zero (dE.refl ι _ w)) rfl .nil), fun c0 h => by cases h⟩
 | region hk _ ih =>
  obtain ⟨hm, ht⟩ := s9 ih hk
  exact ⟨.inl rfl, hm, fun r base ι a w Q _ hs hc hq => wpIn_region (ht r base ι a w Q hs hc fun ι' a' w' q1 q2 q3 q4 => hq ι' a' w' [] q1 q2 q3 (by simpa using q4) .nil), fun c0 h => by cases h⟩
 | draw hk hd _ ih =>
  obtain ⟨hm, _⟩ := s9 ih hk
  exact ⟨.inl rfl, hm, fun r base ι a w Q _ hs hc hq => hdr _ _ _ hd _ _ _ hk ih _ r base ι a w Q hs fun ι' a' w' q1 q2 q3 q4 => hq ι' a' w' [] q1 q2 q3 (by simpa using q4) .nil, fun c0 h => by cases h⟩
 | kV _ _ ih1 ih2 =>
  obtain ⟨_, m1, i1, _⟩ := ih1
  obtain ⟨t2, m2, i2, _⟩ := ih2
  refine ⟨t2, by rw [m2, m1], fun r base ι a w Q hrr hs hc hq => wpIn_seq (i1 r base ι a w _ hrr hs hc fun ι1 a1 w1 ds1 s1 r1 k1 d1 g1 => ?_), fun c0 h => by cases h⟩
  refine i2 r base ι1 a1 w1 Q hrr s1 (hc.more hs.heap r1 k1) fun ι2 a2 w2 ds2 s2 r2 k2 d2 g2 => ?_
  obtain ⟨rr, k⟩ := hs.more r1 k1 s1 r2 k2
  exact hq ι2 a2 w2 (ds2 ++ ds1) s2 rr k (by rw [d2, d1, List.append_assoc]) (g1.more s1.heap r2 k2 g2 k1.size)
 | kZ _ hne ih =>
  obtain ⟨t1, m1, i1, _⟩ := ih
  refine ⟨t1, m1, fun r base ι a w Q hrr hs hc hq => wpIn_seq (i1 r base ι a w _ hrr hs hc fun ι1 a1 w1 ds1 s1 r1 k1 d1 g1 => sZ hne (hq ι1 a1 w1 ds1 s1 r1 k1 d1 g1)), fun c0 h => by cases h⟩
 | @jz ρ c x y s e s' hcv ho _ ih =>
  obtain ⟨t1, m1, i1, _⟩ := ih
  refine ⟨t1, m1, fun r base ι a w Q hrr hs hc hq => ?_, fun c0 h => by cases h⟩
  have hr := dy hs.tmps ho
  rw [hcv] at hr
  exact wpIn_cond_true (hr.plain rfl) (i1 r base ι a w Q hrr hs hc hq)
 | @jd ρ c x y s e s' hcv ho _ ih =>
  obtain ⟨t1, m1, i1, _⟩ := ih
  refine ⟨t1, m1, fun r base ι a w Q hrr hs hc hq => ?_, fun c0 h => by cases h⟩
  have hr := dy hs.tmps ho
  rw [hcv] at hr
  exact wpIn_cond_false (hr.plain rfl) (i1 r base ι a w Q hrr hs hc hq)
 | @gP ρ id c s e s' _ hne ih =>
  obtain ⟨t1, m1, i1, _⟩ := ih
  refine ⟨t1, m1, fun r base ι a w Q hrr hs hc hq => wpIn_block (i1 r base ι a w _ hrr hs hc fun ι1 a1 w1 ds1 s1 r1 k1 d1 g1 => ?_), fun c0 h => by cases h⟩
  have hq' := hq ι1 a1 w1 ds1 s1 r1 k1 d1 g1
  cases e with
  | exit id' =>
   show (if id' = id then _ else _)
   rw [if_neg (fun e => hne (by rw [e]))]
   exact hq'
  | _ => exact hq'
 | @gR ρ id c s s' _ ih =>
  obtain ⟨t1, m1, i1, _⟩ := ih
  refine ⟨.inl rfl, m1, fun r base ι a w Q hrr hs hc hq => wpIn_block (i1 r base ι a w _ hrr hs hc fun ι1 a1 w1 ds1 s1 r1 k1 d1 g1 => ?_), fun c0 h => by cases h⟩
  show (if id = id then _ else _)
  rw [if_pos rfl]
  exact hq ι1 a1 w1 ds1 s1 r1 k1 d1 g1
 | @jk ρ c s s1 e s' _ _ ih1 ih2 =>
  obtain ⟨_, m1, i1, _⟩ := ih1
  obtain ⟨t2, m2, _, i2⟩ := ih2
  obtain ⟨n, hn⟩ := i2 c rfl
  have key : ∀ r base ι (a : Act) (w : World) (Q : Exit → Act → World → Prop), (ρ.r = false → r = none) → eK base ι s a w → db ρ ι s.h w →
    (∀ ι' a' w' ds, eK base ι' s' a' w' → bw base ι ι' s.h s'.h w → bg ι s.h s'.h w w' → a'.defers = ds ++ a.defers → fO ρ w.heap.size ι' s'.h w' ds → Q e a' w') → Code.roundsIn (FR r) 0 P c Q (n + 1) a w := by
   intro r base ι a w Q hrr hs hc hq
   rw [roundsIn_succ]
   refine i1 r base ι a w _ hrr hs hc fun ι1 a1 w1 ds1 s1 r1 k1 d1 g1 => ?_
   refine hn r base ι1 a1 w1 Q hrr s1 (hc.more hs.heap r1 k1) fun ι2 a2 w2 ds2 s2 r2 k2 d2 g2 => ?_
   obtain ⟨rr, k⟩ := hs.more r1 k1 s1 r2 k2
   exact hq ι2 a2 w2 (ds2 ++ ds1) s2 rr k (by rw [d2, d1, List.append_assoc]) (g1.more s1.heap r2 k2 g2 k1.size)
  exact ⟨t2, by rw [m2, m1], fun r base ι a w Q hrr hs hc hq => wpIn_loop_rounds (n + 1) (key r base ι a w Q hrr hs hc hq), fun c0 h => by injection h with h; subst h; exact ⟨n + 1, key⟩⟩
 | @jn ρ c s e s' _ hne ih =>
  obtain ⟨t1, m1, i1, _⟩ := ih
  have key : ∀ r base ι (a : Act) (w : World) (Q : Exit → Act → World → Prop), (ρ.r = false → r = none) → eK base ι s a w → db ρ ι s.h w →
    (∀ ι' a' w' ds, eK base ι' s' a' w' → bw base ι ι' s.h s'.h w → bg ι s.h s'.h w w' → a'.defers = ds ++ a.defers → fO ρ w.heap.size ι' s'.h w' ds → Q e a' w') → Code.roundsIn (FR r) 0 P c Q (0 + 1) a w := by
   intro r base ι a w Q hrr hs hc hq
   rw [roundsIn_succ]
   exact i1 r base ι a w _ hrr hs hc fun ι1 a1 w1 ds1 s1 r1 k1 d1 g1 => sZ hne (hq ι1 a1 w1 ds1 s1 r1 k1 d1 g1)
  exact ⟨t1, m1, fun r base ι a w Q hrr hs hc hq => wpIn_loop_rounds (0 + 1) (key r base ι a w Q hrr hs hc hq), fun c0 h => by injection h with h; subst h; exact ⟨0 + 1, key⟩⟩
 | @scope ρ c s e s' _ ih =>
  obtain ⟨t1, m1, i1, _⟩ := ih
  refine ⟨t1, m1, fun r base ι a w Q hrr hs hc hq => kS (i1 r base ι a w _ hrr hs hc fun ι1 a1 w1 ds1 s1 r1 k1 d1 g1 => ?_), fun c0 h => by cases h⟩
  have hq' := hq ι1 a1 w1 ds1 s1 r1 k1 d1 g1
  rcases t1 with rfl | rfl | ⟨id, rfl⟩ <;> exact hq'
 | nil => exact .nil
 | op ho hw ha hq hl hz _ ih => exact .op ho hw (cF.simple ha).zero (fun hm => ⟨hq hm, cF.simple ha⟩) (kh ha) (fun hp => ⟨(nP hp ha).1, fun g => cF.simple ((nP hp ha).2 g)⟩) hl (fun b hb => dh.of_eq (hz b hb)) ih
 | jm ho hw ha hs hmq hl hz _ ih =>
  exact .op ho hw ((cF.simple ha).vK hs) (fun hm => by rw [hmq] at hm; cases hm) (fun h => ⟨(kh ha h).1.vK hs (kh ha h).2 fun b sz ro f st k c ho => h.lt ho, Nat.le_trans (kh ha h).2 (Nat.le_of_eq hs.n.symm)⟩) (fun hp => by
   exfalso
   have e := (nP hp ha).1
   obtain ⟨b, sz, f, k, c, cn, hb, hb', _⟩ := hs
   rw [e, hb] at hb'
   cases hb') hl (fun b hb => dh.of_eq (hz b hb)) ih
 | l8 ho hw ha hmq hl hz _ ih =>
  exact .op ho hw (cF.map ha).zero (fun hm => by rw [hmq] at hm; cases hm) (sG ha) (fun hp => by rw [nz ha] at hp; cases hp) hl (fun b hb => dh.of_eq (hz b hb)) ih
 | jY ho hw hop hx hb ha hlz hp _ ih =>
  refine .lazy ho hw (cF.simple ha).zero (by rw [hop]; rfl) hlz hp (fun g hg => cF.simple (pn hop hx hb ha hg)) ih
 | iy ho hw hop hx hb ha hl hz _ ih =>
  exact .early ho hw (cF.simple ha).zero (by rw [hop]; rfl) hl (fun g hg => cF.simple (pn hop hx hb ha hg)) hz ih
 | jH ho hw hc hcall hq hl hz _ ih1 ih2 =>
  have h0 := cF.call hc ih1
  exact .op ho hw h0 (fun hm => ⟨⟨(hq hm).1, fun b hb => .inl ((hq hm).2 b hb)⟩, h0.pB (hq hm)⟩) (yQ hcall) (fun hp => by
   exfalso
   unfold gV at hc
   split at hc
   · rename_i hop; rw [hop] at hp; simp [cm] at hp
   · cases hc) hl hz ih2
 | iH ho hw _ ih => exact .skip ho hw ih
 | @call ρ f fn c args h e s' vs hf hbody _ he hres ih =>
  obtain ⟨_, m1, i1, _⟩ := ih
  intro base ι w args' hr hb hctx ha
  refine callsIn_wide (n := 0) |>.1 (callsIn_of_wp_marks hf hbody trivial (i1 none base ι _ w _ (fun _ => rfl) (kI hr hb ha) hctx.out fun ι1 a1 w1 ds1 s1 r1 k1 d1 g1 => ?_))
  · have key : LeavesInM (FR none) 0 P fn a1.tmps (fun e w' => ∃ ι' v', e = .returned v' ∧ bw base ι ι' h s'.h w ∧ aP ι' (eB vs) v' ∧ bn base ι' s'.h w' ∧ bg ι h s'.h w w') a1.defers .returning w1 := by
      rw [d1]
      refine mv (fun w' => bn base ι1 s'.h w' ∧ base ≤ w'.heap.size ∧ bg ι h s'.h w w') (fun w' ⟨q1, q2, q3⟩ => ?_) _ w1 ⟨s1.heap, s1.base, k1⟩ (fun d hd => ?_) ?_
      · obtain ⟨v', hrun, hrel⟩ := gy (P := P) (w := w') ⟨s1.size, s1.tmps, q1, q2⟩ hres
        exact ⟨v', hrun, ι1, v', rfl, r1, hrel, q1, q3⟩
      · obtain ⟨D, q1, q2, q3, q4⟩ := g1.1 d (by simpa using hd)
        exact ⟨D, q1, q3, fun w' ⟨p1, p2, p3⟩ => ⟨p1.put q4 _, by rw [World.putObj_size]; exact p2, p3.put q2 _⟩⟩
      · have := g1.2.1
        simpa using this
    rcases he with rfl | rfl <;> exact key
 | @rangeFunc ρ g ps assign body s gf lb v h' hρr hg hev hps hok _ ih =>
  refine ⟨.inl rfl, rfl, fun r base ι a w Q hrr hs hc hq => ?_, fun c0 h => by cases h⟩
  obtain rfl := hrr hρr.1
  have hgr := dy hs.tmps hg
  rw [hev] at hgr
  generalize hga : a.eval g = vg at hgr
  cases hgr with
  | atom q => simp [aX] at q
  | func p1 p2 p3 p4 =>
   rename_i ys ws
   have hys : ys = #[] := Array.eq_empty_of_size_eq_zero (by rw [← p1]; rfl)
   subst hys
   refine wpIn_rangeFunc fun fn hfn => ?_
   obtain ⟨W1, hW1⟩ : ∃ W1, W1 = (w.alloc (.deferred (some []))).alloc (.loop { state := .ready, pending := none, fn := fn, tmps := a.tmps, params := ps, assign := assign, body := body, defers := w.heap.size }) := ⟨_, rfl⟩
   have hsz : W1.heap.size = w.heap.size + 2 := by rw [hW1, World.size_alloc, World.size_alloc]
   have hrec : W1.heap[w.heap.size + 1]? = some (.loop { state := .ready, pending := none, fn := fn, tmps := a.tmps, params := ps, assign := assign, body := body, defers := w.heap.size }) := by
    rw [hW1]
    have := World.alloc_heap_new (w.alloc (.deferred (some []))) (.loop { state := .ready, pending := none, fn := fn, tmps := a.tmps, params := ps, assign := assign, body := body, defers := w.heap.size })
    rwa [World.size_alloc] at this
   have hdef : W1.heap[w.heap.size]? = some (.deferred (some [])) := by
    rw [hW1]
    show (((w.heap.push _).push _)[w.heap.size]? = _)
    rw [Array.getElem?_push_lt (by simp), Array.getElem_push_eq]
   have hbelow : ∀ B, B < w.heap.size → W1.heap[B]? = w.heap[B]? := fun B hB => by
    rw [hW1]
    show (((w.heap.push _).push _)[B]? = _)
    rw [Array.getElem?_push, if_neg (by simp; omega), Array.getElem?_push, if_neg (by omega)]
   obtain ⟨ι1, hι1⟩ : ∃ ι1 : Lay, ι1 = fun b => if b = s.h.n then some ⟨w.heap.size + 1, 0, 0, 0, false⟩ else ι b := ⟨_, rfl⟩
   have hr1 : bn base ι1 s.h.fm W1 := by rw [hι1]; exact hs.heap.fm (by omega) hbelow (by show w.heap.size + 1 < _; omega) (by show w.heap.size ≤ w.heap.size + 1; omega)
   have hm1 : bw base ι ι1 s.h s.h.fm w := by rw [hι1]; exact bw.fm hs.heap (by show _ ≤ w.heap.size + 1; omega)
   have hk1 : bg ι s.h s.h.fm w W1 := bg.grow (by rw [hW1]; rfl) (by rw [hW1]; rfl) (by rw [hW1]; rfl) (by omega) hbelow
   have hnew : ι1 s.h.n = some ⟨w.heap.size + 1, 0, 0, 0, false⟩ := by rw [hι1]; exact if_pos rfl
   have hfresh : ∀ b e, ι1 b = some e → w.heap.size ≤ e.block → s.h.fm.o b = .dead := fun b e hb he => by
    rw [hι1] at hb
    by_cases hn : b = s.h.n
    · rw [hn]; exact hs.heap.out _ (Nat.le_refl _)
    · simp only [if_neg hn] at hb
      have := hs.heap.gG b e hb
      omega
   have hoffL : tA ι1 s.h.fm (w.heap.size + 1) := fun b e hb he => hfresh b e hb (by omega)
   have hoffD : tA ι1 s.h.fm w.heap.size := fun b e hb he => hfresh b e hb (by omega)
   have hctx : db (ρ.add s.h.n ⟨s.m, s.t, ps, assign, body⟩) ι1 s.h.fm W1 := by
    have h0 := hc.more hs.heap hm1 hk1
    have sp : ∀ {b c}, (ρ.add s.h.n ⟨s.m, s.t, ps, assign, body⟩).c b = some c → (b = s.h.n ∧ c = ⟨s.m, s.t, ps, assign, body⟩) ∨ (b ≠ s.h.n ∧ ρ.c b = some c) := fun {b c} hb => by
     unfold dV.add at hb
     simp only at hb
     split at hb
     · exact .inl ⟨by assumption, (Option.some.inj hb).symm⟩
     · exact .inr ⟨by assumption, hb⟩
    have far : ∀ {b c e}, ρ.c b = some c → ι1 b = some e → e.block < w.heap.size := fun {b c e} hb he => by
     obtain ⟨e', _, _, _, q1, _⟩ := hc.wi b c hb
     have := hm1.old b (hs.heap.lt b e' q1)
     rw [this, q1] at he
     obtain rfl := Option.some.inj he
     exact hs.heap.gG b _ q1
    refine ⟨fun b c hb => ?_, fun b1 b2 c1 c2 e1 e2 h1 h2 h3 h4 h5 => ?_⟩
    · rcases sp hb with ⟨rfl, rfl⟩ | ⟨_, hb⟩
      · exact ⟨_, fn, a.tmps, w.heap.size, hnew, hoffL, hrec, hs.size, fun i => (hs.tmps i).mono (bw.lay hs.heap hm1)⟩
      · exact h0.wi b c hb
    · rcases sp h1 with ⟨rfl, rfl⟩ | ⟨n1, h1⟩ <;> rcases sp h2 with ⟨rfl, rfl⟩ | ⟨n2, h2⟩
      · rfl
      · exfalso
        rw [hnew] at h3
        obtain rfl := Option.some.inj h3
        have := far h2 h4
        simp only at h5
        omega
      · exfalso
        rw [hnew] at h4
        obtain rfl := Option.some.inj h4
        have := far h1 h3
        simp only at h5
        omega
      · exact h0.inj b1 b2 c1 c2 e1 e2 h1 h2 h3 h4 h5
   have harg : fS ι1 (#[Yd s.h.n] ++ lb) (#[.func (.yield (w.heap.size + 1)) #[] #[]] ++ ws) := by
    refine fS.append ⟨rfl, fun i x y hx hy => ?_⟩ ⟨p3.symm, fun i x y hx hy => (p4 i x y hx hy).mono (bw.lay hs.heap hm1)⟩
    cases i with
    | zero =>
     simp at hx hy
     subst hx hy
     exact aP.wI hnew
    | succ i => simp at hx
   refine ⟨w.heap.size + 1, [{ target := .collected w.heap.size, args := #[] }], W1, { target := .fn (.func gf) ws, args := #[.func (.yield (w.heap.size + 1)) #[] #[]] }, W1, gf,
    #[.func (.yield (w.heap.size + 1)) #[] #[]] ++ ws, W1, ?_, ?_, fun _ _ => trivial, ?_, fun hd => by simp [FR, Fence.wide] at hd, ?_⟩
   · rw [hW1]; exact run_enterLoop_outer _ _ _ _ _
   · simp only [resolve, rangeCall, hga]
     simp [go_sem]
   · unfold qJ at hok
     split at hok
     · rename_i fn0 hf0
       simp only [Bool.and_eq_true, bne_iff_ne, ne_eq] at hok
       simp only [invoke, callFunc, Sem.run_bind, run_program, hf0, Result.andThen_ok]
       have e1 : (fn0.name == "runtime.NumGoroutine") = false := by simpa using hok.2
       have e2 : fn0.body.isNone = false := by
        have := hok.1
        cases hb0 : fn0.body with
        | none => rw [hb0] at this; cases this
        | some c => rfl
       rw [e1, e2]
       rfl
     · cases hok
   · have hcalls := ih base ι1 W1 _ hr1 (by have := hs.base; omega) hctx harg
     have hin : CallsIn (FR none) 0 P gf (#[.func (.yield (w.heap.size + 1)) #[] #[]] ++ ws) W1 _ := callsIn_wide.2 hcalls
     refine hin.mono fun e w3 ⟨ι3, v3, he, d1, d2, d3, d4⟩ => ?_
     subst he
     have hL3 : w3.heap[w.heap.size + 1]? = _ := (hoffL.aq hr1 d1 d4 (by omega)).trans hrec
     have hD3 : w3.heap[w.heap.size]? = _ := (hoffD.aq hr1 d1 d4 (by omega)).trans hdef
     have hoffL3 := hoffL.more hr1 d1 (by omega)
     have hoffD3 := hoffD.more hr1 d1 (by omega)
     have hm3 := bw.trans hs.heap hr1 hm1 d1 hk1.size
     have hk3 := bg.trans hs.heap hr1 hm1 d1 hk1 d4
     refine ⟨none, _, run_endLoop hL3 (by intro q; cases q), ?_⟩
     refine hq ι3 _ _ [{ target := .collected w.heap.size, args := #[] }] ⟨hs.size, fun i => (hs.tmps i).mono (bw.lay hs.heap hm3), d3.put hoffL3 _, ?_⟩ hm3 (hk3.put (by omega) _) rfl ⟨fun d hd => ?_, List.pairwise_singleton _ _, fun hn => by rw [hρr.2] at hn; cases hn⟩
     · rw [World.putObj_size]; have := hk3.size; have := hs.base; omega
     · rw [List.mem_singleton] at hd
       exact ⟨w.heap.size, hd, Nat.le_refl _, by rw [World.putObj_heap_other (by omega)]; exact hD3, hoffD3⟩
 | gQ ho hw hy hc0 hn hps hb1 hb2 hq hl hz _ ih1 ih2 ih3 =>
  have h0 := cF.yield hy hc0 hn hps ih1 ih2
  exact .op ho hw h0 (fun hm => ⟨⟨(hq hm).1, fun b hb => .inl ((hq hm).2 b hb)⟩, h0.pB (hq hm)⟩) (fun hwf => by
   have h1 := yQ hb1 hwf
   have h2 := yQ hb2 h1.1
   exact ⟨h2.1, Nat.le_trans h1.2 h2.2⟩) (fun hp => by
   exfalso
   unfold jq at hy
   split at hy
   · rename_i hop; rw [hop] at hp; simp [cm] at hp
   · cases hy) hl (fun b hb => dh.of_eq (hz b hb)) ih3
 | @direct ρ f args h v h' hd => have := hd.2 (fun _ => false) ρ; rw [sV, sV] at this; exact this
 | pF _ _ ih1 ih2 =>
  obtain ⟨_, m1, i1, _⟩ := ih1
  obtain ⟨m2, i2⟩ := ih2
  refine ⟨by rw [m2, m1], fun base ι a w Q hρ hs hc hq => wpIn_seq (i1 none base ι a w _ (fun _ => rfl) hs hc fun ι1 a1 w1 ds1 s1 r1 k1 d1 g1 => ?_)⟩
  refine i2 base ι1 a1 w1 Q hρ s1 (hc.more hs.heap r1 k1) fun ι2 a2 w2 es1 es2 lb' s2 r2 k2 d2 g2 ha => ?_
  obtain ⟨rr, k⟩ := hs.more r1 k1 s1 r2 k2
  refine hq ι2 a2 w2 (es1 ++ ds1) es2 lb' s2 rr k (by rw [d2, d1, List.append_assoc]) ?_ ha
  rw [← List.append_assoc]
  exact g1.more s1.heap r2 k2 g2 k1.size
 | @mh ρ id ops rest s s2 e s' x ats g lb n o hk hsz ho hop hgd hdst hx _ hev _ he ih1 ih2 =>
  obtain ⟨m1, _⟩ := jZ ih1 hk [n]
  obtain ⟨_, m2, i2, _⟩ := ih2
  refine ⟨by rw [m2, m1], fun base ι a w Q hρ hs hc hq => wpIn_seq (wpIn_region ?_)⟩
  rw [hsz, List.range_succ]
  refine (jZ ih1 hk [n]).2 none base ι a w _ hs hc fun ι1 a1 w1 s1 r1 k1 d1 => ?_
  have hrel := dy s1.tmps hx
  rw [hev] at hrel
  generalize hga : a1.eval x = vg at hrel
  cases hrel with
  | atom q => simp [aX] at q
  | func p1 p2 p3 p4 =>
   rename_i ys ws
   have hys : ys = #[] := Array.eq_empty_of_size_eq_zero (by rw [← p1]; rfl)
   subst hys
   rw [wpOpsIn_cons]
   unfold wpOpIn
   simp only [ho]
   have hwant : Region.wanted o (yielded ops a1.tmps) = true := by unfold Region.wanted; rw [hgd]
   rw [hwant, if_pos rfl]
   refine ⟨fun _ _ => trivial, ?_⟩
   have hrun : (o.semAt (FR none).round a1.eval).run P w1 = .ok (.defer { target := .fn (.func g) ws, args := #[] }) w1 := by
    show (execOp a1.eval o).run P w1 = _
    unfold execOp
    rw [hop]
    simp only [resolve, hga, Deferred.ofValue, Sem.run_bind, Sem.run_pure, Result.andThen_ok, List.map_toArray, List.map_nil, Array.append_empty]
   rw [hrun, Oper.uponIn_defer, hdst]
   show wpOpsIn (FR none) 0 P ops _ [] _ w1
   show Exit.then _ _ Exit.normal _ w1
   have s1' : eK base ι1 s2 { a1 with defers := { target := .fn (.func g) ws, args := #[] } :: a1.defers } w1 := ⟨s1.size, s1.tmps, s1.heap, s1.base⟩
   refine i2 none base ι1 _ w1 Q (fun _ => rfl) s1' (hc.more hs.heap r1 k1) fun ι2 a2 w2 ds2 t2 r2 k2 d2 g2 => ?_
   obtain ⟨rr, k⟩ := hs.more r1 k1 s1 r2 k2
   have := hq ι2 a2 w2 [] ds2 ws t2 rr k (by rw [d2, d1]; rfl) (by rw [List.append_nil]; exact ⟨fun d hd => by
    obtain ⟨D, q1, q2, q3, q4⟩ := g2.1 d hd
    exact ⟨D, q1, Nat.le_trans k1.size q2, q3, q4⟩, g2.2⟩) ⟨p3.symm, fun i u v hu hv => (p4 i u v hu hv).mono (bw.lay s1.heap r2)⟩
   rcases he with rfl | rfl
   · exact this.1
   · exact this.2
 | @j8 ρ f fn c args h s' g lb gn gc e4 s4 vs2 vs hf hbody _ hgf hgb hgn _ he4 hres2 hres ih1 ih2 =>
  obtain ⟨m1, i1⟩ := ih1
  obtain ⟨_, m2, i2, _⟩ := ih2
  intro base ι w args' hr hb hctx ha
  refine callsIn_wide (n := 0) |>.1 (callsIn_of_wp_marks hf hbody trivial (i1 base ι _ w _ rfl (kI hr hb ha) hctx.out fun ι1 a1 w1 ds1 ds2 lb' s1 r1 k1 d1 g1 hlb => ?_))
  have key : LeavesInM (FR none) 0 P fn a1.tmps (fun e w' => ∃ ι' v', e = .returned v' ∧ bw base ι ι' h s4.h w ∧ aP ι' (eB vs) v' ∧ bn base ι' s4.h w' ∧ bg ι h s4.h w w') a1.defers .returning w1 := by
   rw [d1, List.append_nil]
   have gp := List.pairwise_append.1 g1.2.1
   refine j7 (fun w' => bn base ι1 s'.h w' ∧ base ≤ w'.heap.size ∧ bg ι h s'.h w w' ∧ ∀ d ∈ ds1, ∃ D, d = { target := .collected D, args := #[] } ∧ w.heap.size ≤ D ∧ w'.heap[D]? = some (.deferred (some [])) ∧ tA ι1 s'.h D) _ (fun w' ⟨q1, q2, q3, q4⟩ => ?_) ds2 w1
    ⟨s1.heap, s1.base, k1, fun d hd => g1.1 d (List.mem_append.2 (.inr hd))⟩ (fun d hd => ?_) gp.1
   · refine ⟨fun q => (by cases q), .inr ⟨fun q => by simp [FR, Fence.wide] at q, .func g, lb', g, lb', rfl, ?_, fun _ _ => trivial, ?_⟩⟩
     · simp only [invoke, Array.empty_append, callFunc, Sem.run_bind, run_program, hgf, Result.andThen_ok]
       have e1 : (gn.name == "runtime.NumGoroutine") = false := by simpa using hgn
       have e2 : gn.body.isNone = false := by rw [hgb]; rfl
       rw [e1, e2]
       rfl
     · refine (callsDIn_of_wp (F := FR none) (n := 0 - 1) (R := fun e w3 => ∃ ι' v', e = .returned v' ∧ bw base ι1 ι' s'.h s4.h w' ∧ bn base ι' s4.h w3 ∧ bg ι1 s'.h s4.h w' w3 ∧ base ≤ w3.heap.size) hgf hgb trivial ?_).mono fun e u' w3 ⟨hu, hR⟩ => ?_
       · refine i2 none base ι1 _ w' _ (fun _ => rfl) (kI q1 q2 hlb) db.none.late fun ι2 a2 w3 es s3 r3 k3 d3 g3 => ?_
         obtain ⟨v', hrun, hrel⟩ := gy (P := P) s3 hres2
         have : bodyPost P gn (fun e w3 => ∃ ι' v', e = .returned v' ∧ bw base ι1 ι' s'.h s4.h w' ∧ bn base ι' s4.h w3 ∧ bg ι1 s'.h s4.h w' w3 ∧ base ≤ w3.heap.size) .ret a2 w3 :=
          ⟨by rw [d3, g3.2.2 rfl]; rfl, v', hrun, ι2, v', rfl, r3, s3.heap, k3, s3.base⟩
         rcases he4 with rfl | rfl <;> exact this
       · obtain ⟨ι4, v4, rfl, r4, h4, k4, b4⟩ := hR
         subst hu
         show LeavesInM (FR none) 0 P fn a1.tmps _ ds1 .returning w3
         have rr := bw.trans hr q1 r1 r4 q3.size
         have kk := bg.trans hr q1 r1 r4 q3 k4
         refine mv (fun w5 => bn base ι4 s4.h w5 ∧ base ≤ w5.heap.size ∧ bg ι h s4.h w w5) (fun w5 ⟨p1, p2, p3⟩ => ?_) ds1 w3 ⟨h4, b4, kk⟩ (fun d hd => ?_) gp.2.1
         · obtain ⟨v', hrun, hrel⟩ := gy (P := P) (s := { s' with h := s4.h }) (a := a1) (w := w5) ⟨s1.size, fun i => (s1.tmps i).mono (bw.lay q1 r4), p1, p2⟩ hres
           exact ⟨v', hrun, ι4, v', rfl, rr, hrel, p1, p3⟩
         · obtain ⟨D, p1, p2, p3, p4⟩ := q4 d hd
           have hlt : D < w'.heap.size := (Array.getElem?_eq_some_iff.1 p3).1
           exact ⟨D, p1, by rw [p4.aq q1 r4 k4 hlt]; exact p3, fun w6 ⟨t1, t2, t3⟩ => ⟨t1.put (p4.more q1 r4 hlt) _, by rw [World.putObj_size]; exact t2, t3.put p2 _⟩⟩
   · obtain ⟨D, q1, q2, q3, q4⟩ := g1.1 d (List.mem_append.2 (.inl hd))
     refine ⟨D, q1, q3, fun w' ⟨p1, p2, p3, p4⟩ => ⟨p1.put q4 _, by rw [World.putObj_size]; exact p2, p3.put q2 _, fun d' hd' => ?_⟩⟩
     obtain ⟨D', t1, t2, t3, t4⟩ := p4 d' hd'
     refine ⟨D', t1, t2, ?_, t4⟩
     rw [World.putObj_heap_other fun e => gp.2.2 d hd d' hd' (by rw [q1, t1, e])]
     exact t3
  exact ⟨key, key⟩
end Go.Proofs.YthekokdpplobhaaGreat.Eng
set_option linter.unusedVariables false
set_option linter.unusedSimpArgs false
namespace Go.Proofs.YthekokdpplobhaaGreat.Eng
variable {P : Program} {base : Nat} {ι ι1 ι2 : Lay} {h h' h1 h2 : ai} {w w1 w2 : World}
def Lay.cut (ι : Lay) (n : Nat) : Lay := fun b => if b < n then ι b else none
theorem bD {n b : Nat} {e : Ext} (h : ι.cut n b = some e) : b < n ∧ ι b = some e := by
 unfold Lay.cut at h
 split at h
 · exact ⟨by assumption, h⟩
 · cases h
theorem cd {n b : Nat} {e : Ext} (h : b < n) (h' : ι b = some e) : ι.cut n b = some e := by unfold Lay.cut; rw [if_pos h]; exact h'
theorem Quiet.refl (h : ai) : Quiet h h := ⟨Nat.le_refl _, fun _ _ => .inl rfl⟩
theorem Quiet.trans (a : Quiet h h1) (b : Quiet h1 h2) : Quiet h h2 := by
 refine ⟨Nat.le_trans a.1 b.1, fun y hy => ?_⟩
 rcases a.2 y hy with q | ⟨sz, f, k, c, m, q1, q2, q3⟩ <;> rcases b.2 y (Nat.lt_of_lt_of_le hy a.1) with r | ⟨sz', f', k', c', m', r1, r2, r3⟩
 · exact .inl (by rw [r, q])
 · exact .inr ⟨sz', f', k', c', m', by rw [← q]; exact r1, r2, Nat.le_trans a.1 r3⟩
 · exact .inr ⟨sz, f, k, c, m, q1, by rw [r]; exact q2, q3⟩
 · rw [q2] at r1; cases r1
theorem Quiet.is (a : Quiet h h') {y : Nat} (hy : y < h.n) {sz ro f st k c} (ho : h.o y = .cells sz ro f st k c) : ∃ st', h'.o y = .cells sz ro f st' k c ∧ (st' = st ∨ (st = none ∧ ro = false ∧ ∃ m, st' = some m ∧ h.n ≤ m)) := by
 rcases a.2 y hy with q | ⟨sz', f', k', c', m, q1, q2, q3⟩
 · exact ⟨st, by rw [q]; exact ho, .inl rfl⟩
 · rw [ho] at q1
   injection q1 with e1 e2 e3 e4 e5 e6
   subst e1 e2 e3 e4 e5 e6
   exact ⟨some m, q2, .inr ⟨rfl, rfl, m, rfl, q3⟩⟩
theorem Quiet.gE (a : Quiet h h') {y : Nat} (hy : y < h.n) {sz ro f st k c} (ho : h'.o y = .cells sz ro f st k c) : ∃ st', h.o y = .cells sz ro f st' k c ∧ (st = st' ∨ (st' = none ∧ ro = false ∧ ∃ m, st = some m ∧ h.n ≤ m)) := by
 rcases a.2 y hy with q | ⟨sz', f', k', c', m, q1, q2, q3⟩
 · exact ⟨st, by rw [← q]; exact ho, .inl rfl⟩
 · rw [ho] at q2
   injection q2 with e1 e2 e3 e4 e5 e6
   subst e1 e2 e3 e4 e5 e6
   exact ⟨none, q1, .inr ⟨rfl, rfl, m, rfl, q3⟩⟩
theorem Quiet.mw (a : Quiet h h') {y : Nat} (hy : y < h.n) : lu (h.o y) (h'.o y) := by
 rcases a.2 y hy with q | ⟨sz, f, k, c, m, q1, q2, q3⟩
 · rw [q]; exact lu.refl _
 · rw [q1, q2]; exact ⟨false, some m, k, c, rfl, id, Nat.le_refl _, fun _ => rfl, fun m' e => by cases e⟩
theorem Quiet.rd (a : Quiet h h') (hwf : ∀ b sz ro f m k c, h.o b = .cells sz ro f (some m) k c → m < h.n) {y : Nat} (hy : y < h.n) {c : List Value} (hc : h'.rd y = some c) : h.rd y = some c := by
 rcases iM hc with ⟨sz, ro, f, k, q⟩ | ⟨sz, ro, f, m, k, sz', ro', f', c', q1, q2⟩
 · obtain ⟨st', r1, r2 | ⟨_, _, m, r2, _⟩⟩ := a.gE hy q
   · subst r2; unfold ai.rd; rw [r1]
   · cases r2
 · obtain ⟨st', r1, r2 | ⟨r2, _⟩⟩ := a.gE hy q1
   · subst r2
     obtain ⟨st2, s1, s2 | ⟨_, _, m2, s2, _⟩⟩ := a.gE (hwf y _ _ _ _ _ _ r1) q2
     · subst s2; unfold ai.rd; rw [r1]; simp only; rw [s1]; rfl
     · cases s2
   · subst r2; unfold ai.rd; rw [r1]
structure iu (base : Nat) (G : Nat → ai) (m R : Nat) (E : Nat → Prop) (ιm : Lay) (wm : World) (ι : Lay) (w : World) : Prop where
 old : ∀ y, y < (G m).n → ι y = ιm y
 yq : ∀ y e, ι y = some e → y < (G m).n ∨ ∃ q, m ≤ q ∧ q < R ∧ E q ∧ (G q).n ≤ y ∧ y < (G (q + 1)).n
 rel : ∀ i, m ≤ i → i ≤ R → bn base (ι.cut (G i).n) (G i) w
 jw : ∀ p x e f bP ro1 st1 k1 c1 fk ro2 st2 k2 c2, (G R).o p = .cells bP ro1 f st1 k1 c1 → (G R).o x = .cells fk ro2 f st2 k2 c2 → p < x → (G m).n ≤ p → ι x = some e → ∃ e', ι p = some e'
 full : ∀ q, m ≤ q → q < R → E q → ∀ y, (G q).n ≤ y → y < (G (q + 1)).n → ∃ e, ι y = some e
 new : ∀ b e, (G m).n ≤ b → ι b = some e → wm.heap.size ≤ e.block ∨ ∃ b0 e0 sz ro f st k c, ιm b0 = some e0 ∧ (G R).o b0 ≠ (G m).o b0 ∧ e.block = e0.block ∧ e0.off ≤ e.off ∧ e.off + e.cap ≤ e0.off + e0.cap ∧
  (G m).o b0 = .cells sz ro f st k c ∧ ∃ sz' ro' st' k' c', (G R).o b = .cells sz' ro' f st' k' c'
 mH : ∀ b e sz ro f st k c, (G m).n ≤ b → ι b = some e → (G R).o b = .cells sz ro f st k c → (G m).n ≤ f ∨ ∃ b0 e0 sz0 ro0 st0 k0 c0, ιm b0 = some e0 ∧ (G m).o b0 = .cells sz0 ro0 f st0 k0 c0 ∧ (G R).o b0 ≠ (G m).o b0
 aq : bg ιm (G m) (G R) wm w
section
variable {G : Nat → ai} {m R : Nat} {E : Nat → Prop} {ιm : Lay} {wm : World}
theorem chain (hq : ∀ i, m ≤ i → i < R → Quiet (G i) (G (i + 1))) : ∀ j i, m ≤ i → i ≤ j → j ≤ R → Quiet (G i) (G j) := by
 intro j
 induction j with
 | zero =>
  intro i _ h1 _
  have e : i = 0 := by omega
  rw [e]; exact Quiet.refl _
 | succ j ih =>
  intro i h1 h2 h3
  rcases Nat.lt_or_ge i (j + 1) with q | q
  · exact (ih i h1 (by omega) (by omega)).trans (hq j (by omega) (by omega))
  · obtain rfl : i = j + 1 := by omega
    exact Quiet.refl _
theorem iu.start (hr : bn base ιm (G m) wm) (hq : ∀ i, m ≤ i → i < R → Quiet (G i) (G (i + 1))) (hmR : m ≤ R) (hwf : ∀ i, m ≤ i → i ≤ R → WF (G i)) :
  iu base G m R (fun _ => False) ιm wm ιm wm := by
 have hlt := hr.lt
 refine ⟨fun _ _ => rfl, fun y e he => .inl (hlt y e he), fun i h1 h2 => ?_, ?_, fun _ _ _ h => h.elim, fun b e hb he => absurd (hlt b e he) (by omega), fun b e _ _ _ _ _ _ hb he => absurd (hlt b e he) (by omega), eL.zero ?_⟩
 · have qc := chain hq i m (Nat.le_refl _) h1 h2
   obtain ⟨w1, w2, w3, w4⟩ := hwf i h1 h2
   have cs : ∀ b e, ιm.cut (G i).n b = some e → ιm b = some e ∧ b < (G m).n := fun b e hb => ⟨(bD hb).2, hlt b e (bD hb).2⟩
   refine ⟨fun b e hb => (bD hb).1, fun b e hb => hr.gG b e (cs b e hb).1, ?_, ?_, ?_, ?_, ?_, w1, w2, w3, w4, ?_⟩
   · intro b e sz ro f st k c hb ho
     obtain ⟨c1, c2⟩ := cs b e hb
     obtain ⟨st', q, _⟩ := qc.gE c2 ho
     exact hr.na b e _ _ _ _ _ _ c1 q
   · intro b e c i v hb hmp hc hi
     obtain ⟨c1, c2⟩ := cs b e hb
     obtain ⟨v', q1, q2⟩ := hr.val b e c i v c1 hmp (qc.rd (fun b _ _ _ _ _ _ h => (hr.wf b _ _ _ _ _ _ h).1) c2 hc) hi
     exact ⟨v', q1, q2.mono fun b e hb => cd (Nat.lt_of_lt_of_le (hlt b e hb) qc.1) hb⟩
   · intro b e sz f st k c i hb ho hi
     obtain ⟨c1, c2⟩ := cs b e hb
     obtain ⟨st', q, _⟩ := qc.gE c2 ho
     exact hr.room b e _ _ _ _ _ i c1 q hi
   · intro b1 e1 b2 e2 bP ro1 f1 st1 k1 c1 fk f2 st2 k2 c2 h1 h2 o1 o2
     obtain ⟨a1, a2⟩ := cs _ _ h1
     obtain ⟨d1, d2⟩ := cs _ _ h2
     obtain ⟨_, q1, _⟩ := qc.gE a2 o1
     obtain ⟨_, q2, _⟩ := qc.gE d2 o2
     exact hr.apart b1 e1 b2 e2 _ _ _ _ _ _ _ _ _ _ _ a1 d1 q1 q2
   · intro b1 e1 b2 e2 f1 bP ro1 st1 k1 c1 fk ro2 st2 k2 c2 h1 h2 o1 o2
     obtain ⟨a1, a2⟩ := cs _ _ h1
     obtain ⟨d1, d2⟩ := cs _ _ h2
     obtain ⟨_, q1, _⟩ := qc.gE a2 o1
     obtain ⟨_, q2, _⟩ := qc.gE d2 o2
     exact hr.link b1 e1 b2 e2 _ _ _ _ _ _ _ _ _ _ _ a1 d1 q1 q2
   · intro b e sz ro f st k c hb hmp ho
     obtain ⟨c1, c2⟩ := cs b e hb
     obtain ⟨st', q, hst⟩ := qc.gE c2 ho
     obtain ⟨g2, g3⟩ := hr.maps b e _ _ _ _ _ _ c1 hmp q
     exact ⟨fun b' e' hb' hB => g2 b' e' (cs b' e' hb').1 hB, g3.mono fun b e hb => cd (Nat.lt_of_lt_of_le (hlt b e hb) qc.1) hb⟩
 · intro p x e f _ _ _ _ _ _ _ _ _ _ _ _ hpx hp hx
   have := hlt x e hx
   omega
 · exact ⟨rfl, rfl, rfl, Nat.le_refl _, fun _ _ _ => rfl, fun _ _ _ h _ => h, fun _ _ v h => ⟨⟨v, h⟩, rfl⟩⟩
end
end Go.Proofs.YthekokdpplobhaaGreat.Eng
set_option linter.unusedVariables false
set_option linter.unusedSimpArgs false
namespace Go.Proofs.YthekokdpplobhaaGreat.Eng
variable {P : Program} {base : Nat} {ι : Lay} {w w' : World} {G : Nat → ai} {m R : Nat} {E : Nat → Prop} {ιm : Lay} {wm : World}
def Lay.with (ι κ : Lay) (a b : Nat) : Lay := fun y => if a ≤ y ∧ y < b then κ y else ι y
theorem iu.step (hQ : iu base G m R E ιm wm ι w) (hq : ∀ i, m ≤ i → i < R → Quiet (G i) (G (i + 1))) (hwf : ∀ i, m ≤ i → i ≤ R → WF (G i)) {q : Nat} (h1 : m ≤ q) (h2 : q < R) (hE : ¬ E q) {κ : Lay}
  (hm : bw base (ι.cut (G q).n) κ (G q) (G (q + 1)) w) (hr : bn base κ (G (q + 1)) w') (hk : dE (ι.cut (G q).n) (G q) (G (q + 1)) w w') :
  iu base G m R (fun i => E i ∨ i = q) ιm wm (ι.with κ (G q).n (G (q + 1)).n) w' := by
 have ch := fun i j (a : m ≤ i) (b : i ≤ j) (c : j ≤ R) => chain hq j i a b c
 have nle : ∀ i j, m ≤ i → i ≤ j → j ≤ R → (G i).n ≤ (G j).n := fun i j a b c => (ch i j a b c).1
 have hqq := hq q h1 h2
 have hnq : (G q).n ≤ (G (q + 1)).n := hqq.1
 have hmq := nle m q (Nat.le_refl _) h1 (by omega)
 have hqR := nle (q + 1) R (by omega) (by omega) (Nat.le_refl _)
 have hsz := hk.size
 have Wm := hwf m (Nat.le_refl _) (by omega)
 have Wq := hwf q h1 (by omega)
 have WR := hwf R (by omega) (Nat.le_refl _)
 have hnone : ∀ y e, ι y = some e → ¬ ((G q).n ≤ y ∧ y < (G (q + 1)).n) := by
  rintro y e hy ⟨a, b⟩
  rcases hQ.yq y e hy with c | ⟨q2, c1, c2, c3, c4, c5⟩
  · omega
  · rcases Nat.lt_trichotomy q2 q with d | d | d
    · have := nle (q2 + 1) q (by omega) (by omega) (by omega); omega
    · subst d; exact hE c3
    · have := nle (q + 1) q2 (by omega) (by omega) (by omega); omega
 have hκ : ∀ y e, κ y = some e → y < (G (q + 1)).n := hr.lt
 have hκold : ∀ y, y < (G q).n → κ y = ι y := fun y hy => by rw [hm.old y hy]; unfold Lay.cut; rw [if_pos hy]
 have hw_old : ∀ y e, ι y = some e → (ι.with κ (G q).n (G (q + 1)).n) y = some e := fun y e hy => by unfold Lay.with; rw [if_neg (hnone y e hy)]; exact hy
 have hw_κ : ∀ y e, κ y = some e → (ι.with κ (G q).n (G (q + 1)).n) y = some e := by
  intro y e hy
  unfold Lay.with
  split
  · exact hy
  · rename_i hn
    have := hκ y e hy
    rw [← hκold y (by omega)]; exact hy
 have hw_case : ∀ y e, (ι.with κ (G q).n (G (q + 1)).n) y = some e → ((G q).n ≤ y ∧ y < (G (q + 1)).n ∧ κ y = some e) ∨ (¬ ((G q).n ≤ y ∧ y < (G (q + 1)).n) ∧ ι y = some e) := by
  intro y e hy
  unfold Lay.with at hy
  split at hy
  · rename_i hn; exact .inl ⟨hn.1, hn.2, hy⟩
  · rename_i hn; exact .inr ⟨hn, hy⟩
 have later : ∀ y e z f bP ro1 st1 k1 c1 fk ro2 st2 k2 c2, ι y = some e → (G (q + 1)).n ≤ y → (G R).o y = .cells bP ro1 f st1 k1 c1 → (G q).n ≤ z → z < (G (q + 1)).n → (G R).o z = .cells fk ro2 f st2 k2 c2 → False := by
  intro y e z f bP ro1 st1 k1 c1 fk ro2 st2 k2 c2 hy hyn hoy hz1 hz2 hoz
  obtain ⟨e', he'⟩ := hQ.jw z y e f _ _ _ _ _ _ _ _ _ _ hoz hoy (by omega) (by omega) hy
  exact hnone z e' he' ⟨hz1, hz2⟩
 have lD : ∀ z, z < (G q).n → (G (q + 1)).o z ≠ (G q).o z → ∃ sz f k c m', (G q).o z = .cells sz false f none k c ∧ (G (q + 1)).o z = .cells sz false f (some m') k c ∧ (G q).n ≤ m' ∧ m' < (G (q + 1)).n ∧
   ∃ sz' ro' st' k' c', (G R).o m' = .cells sz' ro' f st' k' c' := by
  intro z hz hne
  rcases hqq.2 z hz with a | ⟨sz, f, k, c, m', a1, a2, a3⟩
  · exact absurd a hne
  · obtain ⟨b1, sz', ro', st', k', c', b2⟩ := (hwf (q + 1) (by omega) (by omega)).wf z _ _ _ _ _ _ a2
    obtain ⟨st2, d, _⟩ := (ch (q + 1) R (by omega) (by omega) (Nat.le_refl _)).is b1 b2
    exact ⟨sz, f, k, c, m', a1, a2, a3, b1, sz', ro', st2, k', c', d⟩
 have kept : ∀ i, m ≤ i → i ≤ R → ∀ y ey cy x v, ι y = some ey → ey.mp = false → y < (G i).n → (G i).rd y = some cy → x < cy.length → w.cell? ⟨ey.block, ey.off + x, none⟩ = some v → w'.cell? ⟨ey.block, ey.off + x, none⟩ = some v := by
  intro i hi1 hi2 y ey cy x v hy hmpy hyi hry hx hc
  have hri := hQ.rel i hi1 hi2
  have hlen := (hri.yF (cd hyi hy) hmpy hry).2
  refine hk.cell _ _ _ hc fun z ez hz hB hlo hhi => ?_
  obtain ⟨hzq, hz⟩ := bD hz
  by_cases he : (G (q + 1)).o z = (G q).o z
  · exact .inl he
  obtain ⟨sz, f, k, c, m', a1, a2, a3, a4, sz', ro', st', k', c', a5⟩ := lD z hzq he
  refine .inr ⟨sz, false, f, k, c, m', a1, a2, ?_⟩
  obtain ⟨szy, roy, fy, sty, ky, oy⟩ : ∃ szy roy fy sty ky, (G i).o y = .cells szy roy fy sty ky cy := by
   unfold ai.rd at hry
   split at hry
   · rename_i o1; injection hry with hry; subst hry; exact ⟨_, _, _, _, _, o1⟩
   · rename_i o1
     split at hry
     · injection hry with hry; subst hry; exact ⟨_, _, _, _, _, o1⟩
     · cases hry
   · cases hry
  have both : ∀ j, m ≤ j → i ≤ j → q ≤ j → j ≤ R → (∃ st, (G j).o y = .cells szy roy fy st ky cy) ∧ (∃ st, (G j).o z = .cells sz false f st k c) := by
   intro j b1 b2 b3 b4
   obtain ⟨s1, s2, _⟩ := (ch i j hi1 b2 b4).is hyi oy
   obtain ⟨s3, s4, _⟩ := (ch q j h1 b3 b4).is hzq a1
   exact ⟨⟨s1, s2⟩, ⟨s3, s4⟩⟩
  obtain ⟨⟨sy, oyR⟩, ⟨sz0, ozR⟩⟩ := both R (by omega) hi2 (by omega) (Nat.le_refl _)
  by_cases hyz : y = z
  · subst hyz
    obtain rfl := Option.some.inj (hy.symm.trans hz)
    rw [oyR] at ozR
    injection ozR with _ _ _ _ _ e6
    subst e6
    omega
  · have hyR : y < (G R).n := WR.lt oyR
    have hzR : z < (G R).n := WR.lt ozR
    have hrR := hQ.rel R (by omega) (Nat.le_refl _)
    by_cases hf : fy = f
    · subst hf
      rcases Nat.lt_or_ge y (G q).n with hyq | hyq
      ·
        have oyq : ∃ st, (G q).o y = .cells szy roy fy st ky cy := by
         rcases Nat.le_total i q with d | d
         · obtain ⟨s1, s2, _⟩ := (ch i q hi1 d (by omega)).is hyi oy; exact ⟨s1, s2⟩
         · obtain ⟨s1, s2, _⟩ := (ch q i h1 d hi2).gE hyq oy; exact ⟨s1, s2⟩
        obtain ⟨s1, oyq⟩ := oyq
        have := Wq.uniq y z _ _ _ _ _ _ _ _ _ _ oyq a1 (.inl rfl)
        have := (hQ.rel q h1 (by omega)).link y ey z ez _ _ _ _ _ _ _ _ _ _ _ (cd hyq hy) (cd hzq hz) oyq a1 (by omega) hB.symm
        omega
      ·
        exfalso
        have hy2 : (G (q + 1)).n ≤ y := by
         rcases Nat.lt_or_ge y (G (q + 1)).n with d | d
         · exact absurd ⟨hyq, d⟩ (hnone y ey hy)
         · exact d
        exact later y ey m' _ _ _ _ _ _ _ _ _ _ _ hy hy2 oyR a3 a4 a5
    · have := hrR.apart y ey z ez _ _ _ _ _ _ _ _ _ _ _ (cd hyR hy) (cd hzR hz) oyR ozR hf hB.symm
      omega
 refine ⟨?_, ?_, ?_, ?_, ?_, ?_, ?_, ?_⟩
 · intro y hy
   unfold Lay.with; rw [if_neg (by omega)]; exact hQ.old y hy
 · intro y e hy
   rcases hw_case y e hy with ⟨a, b, _⟩ | ⟨_, b⟩
   · exact .inr ⟨q, h1, h2, .inr rfl, a, b⟩
   · rcases hQ.yq y e b with c | ⟨q2, c1, c2, c3, c4, c5⟩
     · exact .inl c
     · exact .inr ⟨q2, c1, c2, .inl c3, c4, c5⟩
 ·
   intro i hi1 hi2
   have hri := hQ.rel i hi1 hi2
   have Wi := hwf i hi1 hi2
   have cs : ∀ y e, (ι.with κ (G q).n (G (q + 1)).n).cut (G i).n y = some e → y < (G i).n ∧ ((ι y = some e) ∨ ((G q).n ≤ y ∧ y < (G (q + 1)).n ∧ κ y = some e ∧ q + 1 ≤ i)) := by
    intro y e hy
    obtain ⟨a, b⟩ := bD hy
    refine ⟨a, ?_⟩
    rcases hw_case y e b with ⟨c1, c2, c3⟩ | ⟨_, c⟩
    · refine .inr ⟨c1, c2, c3, ?_⟩
      rcases Nat.lt_or_ge q i with d | d
      · exact d
      · have := nle i q hi1 d (by omega); omega
    · exact .inl c
   have mono1 : ∀ b e, ι.cut (G i).n b = some e → (ι.with κ (G q).n (G (q + 1)).n).cut (G i).n b = some e := fun b e hb => cd (bD hb).1 (hw_old b e (bD hb).2)
   have gE : ∀ y sz ro f st k c, q + 1 ≤ i → y < (G (q + 1)).n → (G i).o y = .cells sz ro f st k c → ∃ st', (G (q + 1)).o y = .cells sz ro f st' k c := by
    intro y sz ro f st k c hi hy ho
    obtain ⟨st', a, _⟩ := (ch (q + 1) i (by omega) hi hi2).gE hy ho
    exact ⟨st', a⟩
   have atR : ∀ y sz ro f st k c, (G i).o y = .cells sz ro f st k c → ∃ st', (G R).o y = .cells sz ro f st' k c := by
    intro y sz ro f st k c ho
    obtain ⟨st', a, _⟩ := (ch i R hi1 hi2 (Nat.le_refl _)).is (Wi.lt ho) ho
    exact ⟨st', a⟩
   refine ⟨fun b e hb => (bD hb).1, ?_, ?_, ?_, ?_, ?_, ?_, Wi.wf, Wi.jw, Wi.uniq, Wi.out, ?_⟩
   · intro b e hb
     obtain ⟨a, c | ⟨c1, c2, c3, c4⟩⟩ := cs b e hb
     · exact Nat.lt_of_lt_of_le (hri.gG b e (cd a c)) hsz
     · exact hr.gG b e c3
   · intro b e sz ro f st k c hb ho
     obtain ⟨a, d | ⟨c1, c2, c3, c4⟩⟩ := cs b e hb
     · exact hri.na b e _ _ _ _ _ _ (cd a d) ho
     · obtain ⟨st', o'⟩ := gE b _ _ _ _ _ _ c4 c2 ho
       exact hr.na b e _ _ _ _ _ _ c3 o'
   · intro b e c x v hb hmpb hc hx
     obtain ⟨a, d | ⟨c1, c2, c3, c4⟩⟩ := cs b e hb
     · obtain ⟨v', e1, e2⟩ := hri.val b e c x v (cd a d) hmpb hc hx
       exact ⟨v', kept i hi1 hi2 b e c x v' d hmpb a hc (List.getElem?_eq_some_iff.1 hx).1 e1, e2.mono mono1⟩
     · have hc' := (ch (q + 1) i (by omega) c4 hi2).rd (fun b _ _ _ _ _ _ h => ((hwf (q + 1) (by omega) (by omega)).wf b _ _ _ _ _ _ h).1) c2 hc
       obtain ⟨v', e1, e2⟩ := hr.val b e c x v c3 hmpb hc' hx
       refine ⟨v', e1, e2.mono fun b e hb => cd ?_ (hw_κ b e hb)⟩
       exact Nat.lt_of_lt_of_le (hκ b e hb) (nle (q + 1) i (by omega) c4 hi2)
   · intro b e sz f st k c x hb ho hx
     obtain ⟨a, d | ⟨c1, c2, c3, c4⟩⟩ := cs b e hb
     · obtain ⟨⟨v, hv⟩, hf⟩ := hri.room b e _ _ _ _ _ x (cd a d) ho hx
       obtain ⟨e1, e2⟩ := hk.there _ _ _ hv
       exact ⟨e1, by rw [e2]; exact hf⟩
     · obtain ⟨st', o'⟩ := gE b _ _ _ _ _ _ c4 c2 ho
       exact hr.room b e _ _ _ _ _ x c3 o' hx
   ·
     have mix : ∀ y ey x ex szy roy fy sty ky cy szx lF fx stx kx cx, (G q).n ≤ y → y < (G (q + 1)).n → κ y = some ey → q + 1 ≤ i → ι x = some ex → x < (G i).n → (G i).o y = .cells szy roy fy sty ky cy → (G i).o x = .cells szx lF fx stx kx cx →
       (roy = false ∨ lF = false) → fy ≠ fx → ey.block = ex.block → ey.off + ey.cap ≤ ex.off ∨ ex.off + ex.cap ≤ ey.off := by
      intro y ey x ex szy roy fy sty ky cy szx lF fx stx kx cx y1 y2 y3 hi hx hxi oy ox hro hf hB
      obtain ⟨sty', oy'⟩ := gE y _ _ _ _ _ _ hi y2 oy
      rcases Nat.lt_or_ge x (G (q + 1)).n with hxq | hxq
      · obtain ⟨stx', ox'⟩ := gE x _ _ _ _ _ _ hi hxq ox
        have hxκ : κ x = some ex := by
         rcases Nat.lt_or_ge x (G q).n with d | d
         · rw [hκold x d]; exact hx
         · exact absurd ⟨d, hxq⟩ (hnone x ex hx)
        rcases hro with rfl | rfl
        · have := hr.apart x ex y ey _ _ _ _ _ _ _ _ _ _ _ hxκ y3 ox' oy' (Ne.symm hf) hB.symm
          omega
        · exact hr.apart y ey x ex _ _ _ _ _ _ _ _ _ _ _ y3 hxκ oy' ox' hf hB
      · have hxb := hri.gG x ex (cd hxi hx)
        rcases hm.new y ey y1 y3 with d | ⟨b0, e0, sz0, ro0, f0, st0, k0, c0, d1, d2, d3, d4, d5, d6, sz', ro', st', k', c', d7⟩
        · omega
        · obtain ⟨hb0q, hb0⟩ := bD d1
          obtain ⟨cj, f3, k3, c3, m3, t1, t2, t3, _⟩ := lD b0 hb0q d2
          rw [d6] at t1
          injection t1 with u1 u2 u3 u4 u5 u6
          subst u1 u2 u3 u4 u5 u6
          rw [d7] at oy'
          injection oy' with v1 v2 v3
          subst v3
          have hb0i : b0 < (G i).n := Nat.lt_of_lt_of_le hb0q (nle q i h1 (by omega) hi2)
          obtain ⟨stb, ob, _⟩ := (ch q i h1 (by omega) hi2).is hb0q d6
          have := hri.apart x ex b0 e0 _ _ _ _ _ _ _ _ _ _ _ (cd hxi hx) (cd hb0i hb0) ox ob (Ne.symm hf) (by omega)
          omega
     intro b1 e1 b2 e2 bP ro1 f1 st1 k1 c1 fk f2 st2 k2 c2 hb1 hb2 o1 o2 hf hB
     obtain ⟨a1, d1⟩ := cs b1 e1 hb1
     obtain ⟨a2, d2⟩ := cs b2 e2 hb2
     rcases d1 with d1 | ⟨p1, p2, p3, p4⟩ <;> rcases d2 with d2 | ⟨r1, r2, r3, r4⟩
     · exact hri.apart b1 e1 b2 e2 _ _ _ _ _ _ _ _ _ _ _ (cd a1 d1) (cd a2 d2) o1 o2 hf hB
     · have := mix b2 e2 b1 e1 _ _ _ _ _ _ _ _ _ _ _ _ r1 r2 r3 r4 d1 a1 o2 o1 (.inl rfl) (Ne.symm hf) hB.symm
       omega
     · exact mix b1 e1 b2 e2 _ _ _ _ _ _ _ _ _ _ _ _ p1 p2 p3 p4 d2 a2 o1 o2 (.inr rfl) hf hB
     · obtain ⟨_, q1⟩ := gE b1 _ _ _ _ _ _ p4 p2 o1
       obtain ⟨_, q2⟩ := gE b2 _ _ _ _ _ _ p4 r2 o2
       exact hr.apart b1 e1 b2 e2 _ _ _ _ _ _ _ _ _ _ _ p3 r3 q1 q2 hf hB
   · intro b1 e1 b2 e2 f bP ro1 st1 k1 c1 fk ro2 st2 k2 c2 hb1 hb2 o1 o2 hlt hB
     obtain ⟨a1, d1⟩ := cs b1 e1 hb1
     obtain ⟨a2, d2⟩ := cs b2 e2 hb2
     rcases d1 with d1 | ⟨p1, p2, p3, p4⟩ <;> rcases d2 with d2 | ⟨r1, r2, r3, r4⟩
     · exact hri.link b1 e1 b2 e2 _ _ _ _ _ _ _ _ _ _ _ (cd a1 d1) (cd a2 d2) o1 o2 hlt hB
     · have hb1q : b1 < (G q).n := by
         rcases Nat.lt_or_ge b1 (G q).n with d | d
         · exact d
         · exact absurd ⟨d, by omega⟩ (hnone b1 e1 d1)
       obtain ⟨_, q1⟩ := gE b1 _ _ _ _ _ _ r4 (by omega) o1
       obtain ⟨_, q2⟩ := gE b2 _ _ _ _ _ _ r4 r2 o2
       exact hr.link b1 e1 b2 e2 _ _ _ _ _ _ _ _ _ _ _ (by rw [hκold b1 hb1q]; exact d1) r3 q1 q2 hlt hB
     · exfalso
       have : (G (q + 1)).n ≤ b2 := by
        rcases Nat.lt_or_ge b2 (G (q + 1)).n with d | d
        · exact absurd ⟨by omega, d⟩ (hnone b2 e2 d2)
        · exact d
       obtain ⟨_, q1⟩ := atR b1 _ _ _ _ _ _ o1
       obtain ⟨_, q2⟩ := atR b2 _ _ _ _ _ _ o2
       exact later b2 e2 b1 f _ _ _ _ _ _ _ _ _ _ d2 this q2 p1 p2 q1
     · obtain ⟨_, q1⟩ := gE b1 _ _ _ _ _ _ p4 p2 o1
       obtain ⟨_, q2⟩ := gE b2 _ _ _ _ _ _ p4 r2 o2
       exact hr.link b1 e1 b2 e2 _ _ _ _ _ _ _ _ _ _ _ p3 r3 q1 q2 hlt hB
   ·
     intro b e sz ro f st k c hb hmpb ho
     have hrR := hQ.rel R (by omega) (Nat.le_refl _)
     have oldOne : ∀ y ey szy roy fy sty ky cy, ι y = some ey → ey.mp = true → y < (G R).n → (G R).o y = .cells szy roy fy sty ky cy → ∀ z ez, ι z = some ez → z < (G R).n → ez.block = ey.block → z = y :=
      fun y ey szy roy fy sty ky cy hy hmy hyR hoy z ez hz hzR hB => (hrR.maps y ey _ _ _ _ _ _ (cd hyR hy) hmy hoy).1 z ez (cd hzR hz) hB
     have hiR := nle i R hi1 hi2 (Nat.le_refl _)
     have newOld : ∀ y ey szy roy fy sty ky cy x ex, ι y = some ey → ey.mp = true → y < (G R).n → (G R).o y = .cells szy roy fy sty ky cy → (G q).n ≤ x → x < (G (q + 1)).n → κ x = some ex → ex.block = ey.block → False := by
      intro y ey szy roy fy sty ky cy x ex hy hmy hyR hoy x1 x2 x3 hB
      have hyb := hrR.gG y ey (cd hyR hy)
      rcases hm.new x ex x1 x3 with d | ⟨b0, e0, sz0, ro0, f0, st0, k0, c0, d1, d2, d3, d4, d5, d6, _⟩
      · omega
      · obtain ⟨hb0q, hb0⟩ := bD d1
        have e1 := oldOne y ey _ _ _ _ _ _ hy hmy hyR hoy b0 e0 hb0 (by omega) (by omega)
        subst e1
        have e2 : e0 = ey := Option.some.inj (hb0.symm.trans hy)
        subst e2
        have hκb : κ b0 = some e0 := by rw [hκold b0 hb0q]; exact hb0
        obtain ⟨st1, o1, _⟩ := hqq.is hb0q d6
        have := (hr.maps b0 e0 _ _ _ _ _ _ hκb hmy o1).1 x ex x3 hB
        omega
     obtain ⟨a, d | ⟨c1, c2, c3, c4⟩⟩ := cs b e hb
     · obtain ⟨stR, oR⟩ := atR b _ _ _ _ _ _ ho
       have hbR : b < (G R).n := by omega
       obtain ⟨_, g3⟩ := hri.maps b e _ _ _ _ _ _ (cd a d) hmpb ho
       have hbl := hri.gG b e (cd a d)
       have hblk : w'.heap[e.block]? = w.heap[e.block]? := hk.block _ hbl fun z ez hz hzB => by
        obtain ⟨hzq, hz⟩ := bD hz
        have e1 := oldOne b e _ _ _ _ _ _ d hmpb hbR oR z ez hz (by omega) hzB
        subst e1
        have e2 : ez = e := Option.some.inj (hz.symm.trans d)
        subst e2
        rcases hqq.2 z hzq with q1 | ⟨bP, f1, k1, c1, m1, q1, q2, _⟩
        · exact .inl q1
        · exact .inr ⟨hmpb, _, _, _, _, _, _, _, _, _, _, _, q1, q2⟩
       refine ⟨fun b' e' hb' hB => ?_, (g3.world hblk).mono mono1⟩
       obtain ⟨a', d' | ⟨p1, p2, p3, p4⟩⟩ := cs b' e' hb'
       · exact oldOne b e _ _ _ _ _ _ d hmpb hbR oR b' e' d' (by omega) hB
       · exact (newOld b e _ _ _ _ _ _ b' e' d hmpb hbR oR p1 p2 p3 hB).elim
     · obtain ⟨st', o'⟩ := gE b _ _ _ _ _ _ c4 c2 ho
       obtain ⟨g2, g3⟩ := hr.maps b e _ _ _ _ _ _ c3 hmpb o'
       refine ⟨fun b' e' hb' hB => ?_, g3.mono fun b e hb => cd (Nat.lt_of_lt_of_le (hκ b e hb) (nle (q + 1) i (by omega) c4 hi2)) (hw_κ b e hb)⟩
       obtain ⟨a', d' | ⟨p1, p2, p3, p4⟩⟩ := cs b' e' hb'
       · rcases Nat.lt_or_ge b' (G q).n with r | r
         · exact g2 b' e' (by rw [hκold b' r]; exact d') hB
         · exfalso
           have hb'q : (G (q + 1)).n ≤ b' := by
            rcases Nat.lt_or_ge b' (G (q + 1)).n with r2 | r2
            · exact absurd ⟨r, r2⟩ (hnone b' e' d')
            · exact r2
           have hb'b := hri.gG b' e' (cd a' d')
           rcases hm.new b e c1 c3 with s | ⟨b0, e0, sz0, ro0, f0, st0, k0, c0, s1, s2, s3, s4, s5, s6, _⟩
           · omega
           · obtain ⟨hb0q, hb0⟩ := bD s1
             have := g2 b0 e0 (by rw [hκold b0 hb0q]; exact hb0) s3.symm
             omega
       · exact g2 b' e' p3 hB
 ·
   intro p x e f bP ro1 st1 k1 c1 fk ro2 st2 k2 c2 op ox hpx hp hx
   rcases hw_case x e hx with ⟨x1, x2, x3⟩ | ⟨_, x1⟩
   · rcases Nat.lt_or_ge p (G q).n with hpq | hpq
     · obtain ⟨stx, ox', _⟩ := (ch (q + 1) R (by omega) (by omega) (Nat.le_refl _)).gE x2 ox
       obtain ⟨stp, op', _⟩ := (ch q R h1 (by omega) (Nat.le_refl _)).gE hpq op
       rcases hm.mH x _ _ _ _ _ _ x1 ox' with d | ⟨b0, e0, sz0, ro0, st0, k0, c0, d1, d2, d3⟩
       · have := Wq.jw p _ _ _ _ _ _ op'; omega
       · obtain ⟨hb0q, hb0⟩ := bD d1
         obtain ⟨cj, f3, k3, c3, m3, t1, _⟩ := lD b0 hb0q d3
         rw [d2] at t1
         injection t1 with u1 u2 u3 u4 u5 u6
         subst u4
         have hle := Wq.uniq p b0 _ _ _ _ _ _ _ _ _ _ op' d2 (.inl u2)
         rcases Nat.lt_or_ge p b0 with d | d
         · obtain ⟨stb, ob, _⟩ := (ch q R h1 (by omega) (Nat.le_refl _)).is hb0q d2
           obtain ⟨e', he'⟩ := hQ.jw p b0 e0 f _ _ _ _ _ _ _ _ _ _ op ob d hp hb0
           exact ⟨e', hw_old p e' he'⟩
         · obtain rfl : p = b0 := by omega
           exact ⟨e0, hw_old p e0 hb0⟩
     · obtain ⟨e', he'⟩ := hm.full p hpq (by omega)
       exact ⟨e', hw_κ p e' he'⟩
   · obtain ⟨e', he'⟩ := hQ.jw p x e f _ _ _ _ _ _ _ _ _ _ op ox hpx hp x1
     exact ⟨e', hw_old p e' he'⟩
 · intro i hi1 hi2 hi y y1 y2
   rcases hi with hi | rfl
   · obtain ⟨e, he⟩ := hQ.full i hi1 hi2 hi y y1 y2
     exact ⟨e, hw_old y e he⟩
   · obtain ⟨e, he⟩ := hm.full y y1 y2
     exact ⟨e, hw_κ y e he⟩
 ·
   intro b e hb hbe
   rcases hw_case b e hbe with ⟨x1, x2, x3⟩ | ⟨_, x1⟩
   · rcases hm.new b e x1 x3 with d | ⟨b0, e0, sz0, ro0, f0, st0, k0, c0, d1, d2, d3, d4, d5, d6, sz', ro', st', k', c', d7⟩
     · left; have := hQ.aq.size; omega
     · obtain ⟨hb0q, hb0⟩ := bD d1
       obtain ⟨cj, f3, k3, c3, m3, t1, t2, t3, t4, _⟩ := lD b0 hb0q d2
       rw [d6] at t1
       injection t1 with u1 u2 u3 u4 u5 u6
       subst u1 u2 u3 u4 u5 u6
       obtain ⟨stb, ob, _⟩ := (ch (q + 1) R (by omega) (by omega) (Nat.le_refl _)).is x2 d7
       rcases Nat.lt_or_ge b0 (G m).n with hm0 | hm0
       · obtain ⟨stm, om, om2⟩ := (ch m q (Nat.le_refl _) h1 (by omega)).gE hm0 d6
         obtain ⟨stR, oR, oR2⟩ := (ch (q + 1) R (by omega) (by omega) (Nat.le_refl _)).is (by omega) t2
         refine .inr ⟨b0, e0, _, _, _, _, _, _, by rw [← hQ.old b0 hm0]; exact hb0, ?_, d3, d4, d5, om, _, _, _, _, _, ob⟩
         rw [oR, om]
         intro hh
         injection hh with _ _ _ hh
         rcases om2 with om2 | ⟨om2, _⟩ <;> rcases oR2 with oR2 | ⟨oR2, _⟩
         · subst om2 oR2; cases hh
         · cases oR2
         · subst om2 oR2; cases hh
         · cases oR2
       · rcases hQ.new b0 e0 hm0 hb0 with s | ⟨b1, e1, bP, ro1, f1, st1, k1, c1, s1, s2, s3, s4, s5, s6, fk, ro2, st2, k2, c2, s7⟩
         · left; omega
         · obtain ⟨stb0, ob0, _⟩ := (ch q R h1 (by omega) (Nat.le_refl _)).is hb0q d6
           rw [ob0] at s7
           injection s7 with _ _ s7
           subst s7
           exact .inr ⟨b1, e1, _, _, _, _, _, _, s1, s2, by omega, by omega, by omega, s6, _, _, _, _, _, ob⟩
   · exact hQ.new b e hb x1
 · intro b e sz ro f st k c hb hbe ho
   rcases hw_case b e hbe with ⟨x1, x2, x3⟩ | ⟨_, x1⟩
   · obtain ⟨stx, ox', _⟩ := (ch (q + 1) R (by omega) (by omega) (Nat.le_refl _)).gE x2 ho
     rcases hm.mH b _ _ _ _ _ _ x1 ox' with d | ⟨b0, e0, sz0, ro0, st0, k0, c0, d1, d2, d3⟩
     · left; omega
     · obtain ⟨hb0q, hb0⟩ := bD d1
       obtain ⟨cj, f3, k3, c3, m3, t1, t2, t3, t4, _⟩ := lD b0 hb0q d3
       rw [d2] at t1
       injection t1 with u1 u2 u3 u4 u5 u6
       subst u1 u2 u3 u4 u5 u6
       rcases Nat.lt_or_ge b0 (G m).n with hm0 | hm0
       · obtain ⟨stm, om, om2⟩ := (ch m q (Nat.le_refl _) h1 (by omega)).gE hm0 d2
         obtain ⟨stR, oR, oR2⟩ := (ch (q + 1) R (by omega) (by omega) (Nat.le_refl _)).is (by omega) t2
         refine .inr ⟨b0, e0, _, _, _, _, _, by rw [← hQ.old b0 hm0]; exact hb0, om, ?_⟩
         rw [oR, om]
         intro hh
         injection hh with _ _ _ hh
         rcases om2 with om2 | ⟨om2, _⟩ <;> rcases oR2 with oR2 | ⟨oR2, _⟩
         · subst om2 oR2; cases hh
         · cases oR2
         · subst om2 oR2; cases hh
         · cases oR2
       · obtain ⟨stb0, ob0, _⟩ := (ch q R h1 (by omega) (Nat.le_refl _)).is hb0q d2
         exact hQ.mH b0 e0 _ _ _ _ _ _ hm0 hb0 ob0
   · exact hQ.mH b e _ _ _ _ _ _ hb x1 ho
 ·
   have hK := hQ.aq
   have hrR := hQ.rel R (by omega) (Nat.le_refl _)
   have sE : ∀ z, z < (G m).n → lu ((G m).o z) ((G q).o z) ∧ lu ((G q).o z) ((G (q + 1)).o z) ∧ lu ((G (q + 1)).o z) ((G R).o z) := fun z hzm =>
    ⟨(ch m q (Nat.le_refl _) h1 (by omega)).mw hzm, hqq.mw (by have := nle m q (Nat.le_refl _) h1 (by omega); omega), (ch (q + 1) R (by omega) (by omega) (Nat.le_refl _)).mw (y := z) (by have := nle m (q + 1) (Nat.le_refl _) (by omega) (by omega); omega)⟩
   have still : ∀ z ez, (ι.cut (G q).n) z = some ez → ez.block < wm.heap.size → (∀ b e, ιm b = some e → e.block = ez.block → e.off ≤ ez.off → ez.off + ez.cap ≤ e.off + e.cap → (G R).o b = (G m).o b) → (G (q + 1)).o z = (G q).o z := by
    intro z ez hz hB hall
    obtain ⟨hzq, hz⟩ := bD hz
    rcases Nat.lt_or_ge z (G m).n with hzm | hzm
    · have h3 := hall z ez (by rw [← hQ.old z hzm]; exact hz) rfl (Nat.le_refl _) (Nat.le_refl _)
      obtain ⟨e1, e2, e3⟩ := sE z hzm
      have f1 := e1.qf (e2.trans e3) h3
      have f2 := (e1.trans e2).qf e3 h3
      rw [f2, f1]
    · exfalso
      rcases hQ.new z ez hzm hz with s | ⟨b1, e1, bP, ro1, f1, st1, k1, c1, s1, s2, s3, s4, s5, _⟩
      · omega
      · exact s2 (hall b1 e1 s1 s3.symm s4 s5)
   have stillK : ∀ z ez, (ι.cut (G q).n) z = some ez → ez.block < wm.heap.size → (∀ b e, ιm b = some e → e.block = ez.block → Kept e ((G m).o b) ((G R).o b)) → Kept ez ((G q).o z) ((G (q + 1)).o z) := by
    intro z ez hz hB hall
    obtain ⟨hzq, hz⟩ := bD hz
    rcases Nat.lt_or_ge z (G m).n with hzm | hzm
    · have h3 := hall z ez (by rw [← hQ.old z hzm]; exact hz) rfl
      obtain ⟨e1, e2, e3⟩ := sE z hzm
      exact (Kept.qf e2 e3 (Kept.qf e1 (e2.trans e3) h3).2).1
    · exfalso
      rcases hQ.new z ez hzm hz with s | ⟨b1, e1, bP, ro1, f1, st1, k1, c1, s1, s2, s3, s4, s5, s6, _⟩
      · omega
      · rcases hall b1 e1 s1 s3.symm with r | ⟨r, _⟩
        · exact s2 r
        · have hb1 : b1 < (G m).n := (hwf m (Nat.le_refl _) (by omega)).lt s6
          have hmR2 := nle m R (Nat.le_refl _) (by omega) (Nat.le_refl _)
          have hqR2 := nle q R h1 (by omega) (Nat.le_refl _)
          obtain ⟨stR, oR, _⟩ := (ch m R (Nat.le_refl _) (by omega) (Nat.le_refl _)).is hb1 s6
          have hι : ι b1 = some e1 := by rw [hQ.old b1 hb1]; exact s1
          have := (hrR.maps b1 e1 _ _ _ _ _ _ (cd (by omega) hι) r oR).1 z ez (cd (by omega) hz) s3
          omega
   refine ⟨hk.os.trans hK.os, hk.tape.trans hK.tape, hk.output.trans hK.output, Nat.le_trans hK.size hk.size, fun B hB hall => ?_, fun B off v hc hall => ?_, fun B off v hc => ?_⟩
   · rw [← hK.block B hB hall]
     refine hk.block B (Nat.lt_of_lt_of_le hB hK.size) fun z ez hz hzB => stillK z ez hz (by omega) fun b e b1 b2 => hall b e b1 (by omega)
   · have e1 := hK.cell B off v hc hall
     have hB := fp hc
     refine hk.cell B off v e1 fun z ez hz z1 z2 z3 => .inl (still z ez hz (by omega) fun b e b1 b2 b3 b4 => hall b e b1 (by omega) (by omega) (by omega))
   · obtain ⟨⟨v', hv'⟩, hf⟩ := hK.there B off v hc
     obtain ⟨h3, h4⟩ := hk.there B off v' hv'
     exact ⟨h3, by rw [h4, hf]⟩
end Go.Proofs.YthekokdpplobhaaGreat.Eng
set_option linter.unusedVariables false
set_option linter.unusedSimpArgs false
namespace Go.Proofs.YthekokdpplobhaaGreat.Eng
def jE (ops : Array Oper) (o : Oper) : List Nat :=
 (o.op.operands.toList.filterMap fun | .tmp t => some t | _ => none) ++ (match o.guard with | some (j, _) => ((ops[j]?).bind (·.dst)).toList | none => [])
def nr (acc : List Nat) (o : Oper) : Nat := o.after.toList.foldl (fun s e => if Region.binds .any e then s ||| (1 <<< e.on) ||| (acc.getD e.on 0) else s) 0
def yC : List Oper → List Nat → List Nat
 | [], acc => acc
 | o :: os, acc => yC os (acc ++ [nr acc o])
def sk (ops : Array Oper) (mq lz : Nat → Bool) (before : Bool) (i j : Nat) (a b : Oper) : Bool :=
 before || ((match a.dst with | some d => !((jE ops b).contains d) && b.dst != some d | none => true) &&
  (match b.dst with | some d => !((jE ops a).contains d) | none => true) && (cm a.op || cm b.op || (mq i && mq j) || lz i || (lz j && lz (j + 65536))))
def oo (ops : Array Oper) (mq lz : Nat → Bool) : Bool :=
 (List.range ops.size).all fun j => match ops[j]? with
  | none => true
  | some b => (b.after.toList.all fun e => !Region.binds .any e || decide (e.on < j)) &&
    (List.range j).all fun i => match ops[i]? with
     | none => true
     | some a => sk ops mq lz (((yC ops.toList []).getD j 0).testBit i) i j a b
inductive Reach (ops : Array Oper) : Nat → Nat → Prop
 | one {i j o e} : ops[j]? = some o → e ∈ o.after → Region.binds .any e = true → e.on = i → Reach ops i j
 | more {i j o e} : ops[j]? = some o → e ∈ o.after → Region.binds .any e = true → Reach ops i e.on → Reach ops i j
theorem qZ {acc : List Nat} {o : Oper} {i : Nat} (h : (nr acc o).testBit i = true) : ∃ e ∈ o.after, Region.binds .any e = true ∧ (e.on = i ∨ (acc.getD e.on 0).testBit i = true) := by
 unfold nr at h
 have key : ∀ (l : List Edge) (s : Nat), (l.foldl (fun s e => if Region.binds .any e then s ||| (1 <<< e.on) ||| (acc.getD e.on 0) else s) s).testBit i = true →
   s.testBit i = true ∨ ∃ e ∈ l, Region.binds .any e = true ∧ (e.on = i ∨ (acc.getD e.on 0).testBit i = true) := by
  intro l
  induction l with
  | nil => intro s h; exact .inl h
  | cons e l ih =>
   intro s h
   rw [List.foldl_cons] at h
   rcases ih _ h with h | ⟨e', h1, h2⟩
   · split at h
     · rename_i hb
       rw [Nat.testBit_or, Nat.testBit_or, Bool.or_eq_true, Bool.or_eq_true] at h
       rcases h with (h | h) | h
       · exact .inl h
       · refine .inr ⟨e, by simp, hb, .inl ?_⟩
         rw [Nat.testBit_shiftLeft] at h
         simp only [Bool.and_eq_true, decide_eq_true_eq] at h
         have h2 := Nat.testBit_one_eq_true_iff_self_eq_zero.1 h.2
         omega
       · exact .inr ⟨e, by simp, hb, .inr h⟩
     · exact .inl h
   · exact .inr ⟨e', List.mem_cons_of_mem _ h1, h2⟩
 rcases key _ 0 h with h | ⟨e, h1, h2⟩
 · simp at h
 · exact ⟨e, Array.mem_toList_iff.1 h1, h2⟩
theorem ud {ops : Array Oper} : ∀ (os : List Oper) (acc : List Nat), ops.toList.drop acc.length = os → (∀ j i, (acc.getD j 0).testBit i = true → Reach ops i j) →
  ∀ j i, ((yC os acc).getD j 0).testBit i = true → Reach ops i j := by
 intro os
 induction os with
 | nil => intro acc _ h; exact h
 | cons o os ih =>
  intro acc hd h
  have hlt : acc.length < ops.toList.length := by
   rcases Nat.lt_or_ge acc.length ops.toList.length with q | q
   · exact q
   · rw [List.drop_eq_nil_of_le q] at hd; cases hd
  have ho : ops[acc.length]? = some o := by
   have : ops.toList[acc.length]? = some o := by
    rw [List.drop_eq_getElem_cons hlt] at hd
    injection hd with hd _
    rw [List.getElem?_eq_getElem hlt, hd]
   simpa using this
  refine ih (acc ++ [nr acc o]) ?_ ?_
  · rw [List.length_append, List.length_singleton, ← List.drop_drop, hd]; rfl
  · intro j i hb
    rcases Nat.lt_trichotomy j acc.length with q | q | q
    · refine h j i ?_
      rw [List.getD_eq_getElem?_getD, List.getElem?_append_left q, ← List.getD_eq_getElem?_getD] at hb
      exact hb
    · subst q
      rw [List.getD_eq_getElem?_getD, List.getElem?_append_right (Nat.le_refl _), Nat.sub_self] at hb
      obtain ⟨e, h1, h2, h3⟩ := qZ (acc := acc) (o := o) (i := i) hb
      rcases h3 with h3 | h3
      · exact .one ho h1 h2 h3
      · exact .more ho h1 h2 (h _ _ h3)
    · rw [List.getD_eq_getElem?_getD, List.getElem?_eq_none (by simp; omega)] at hb
      simp at hb
def rK (ops : Array Oper) (aJ : Array Bool) : Prop := ∀ j o e, ops[j]? = some o → aJ.getD j false = true → e ∈ o.after → Region.binds .any e = true → aJ.getD e.on false = true
theorem Reach.aJ {ops : Array Oper} {aJ : Array Bool} (hc : rK ops aJ) {i j : Nat} (hr : Reach ops i j) :
  (∀ o e, ops[j]? = some o → e ∈ o.after → Region.binds .any e = true → aJ.getD e.on false = true) → aJ.getD i false = true := by
 induction hr with
 | one ho he hb hi => intro h; rw [← hi]; exact h _ _ ho he hb
 | more ho he hb _ ih => intro h; exact ih fun o' e' ho' he' hb' => hc _ o' e' ho' (h _ _ ho he hb) he' hb'
structure uv (ops : Array Oper) (mq lz : Nat → Bool) : Prop where
 back : ∀ j o e, ops[j]? = some o → e ∈ o.after → Region.binds .any e = true → e.on < j
 pair : ∀ i j a b, i < j → ops[i]? = some a → ops[j]? = some b → Reach ops i j ∨
  ((∀ d, a.dst = some d → d ∉ jE ops b ∧ b.dst ≠ some d) ∧ (∀ d, b.dst = some d → d ∉ jE ops a) ∧ (cm a.op = false → cm b.op = false → (mq i = true ∧ mq j = true) ∨ lz i = true ∨ (lz j = true ∧ lz (j + 65536) = true)))
theorem tS {ops : Array Oper} {mq lz : Nat → Bool} (h : oo ops mq lz = true) : uv ops mq lz := by
 unfold oo at h
 rw [List.all_eq_true] at h
 have at_ : ∀ j b, ops[j]? = some b → (b.after.toList.all fun e => !Region.binds .any e || decide (e.on < j)) = true ∧
   ∀ i a, i < j → ops[i]? = some a → sk ops mq lz (((yC ops.toList []).getD j 0).testBit i) i j a b = true := by
  intro j b hb
  have hj := (Array.getElem?_eq_some_iff.1 hb).1
  have := h j (List.mem_range.2 hj)
  rw [hb] at this
  simp only [Bool.and_eq_true] at this
  refine ⟨this.1, fun i a hi ha => ?_⟩
  have h2 := List.all_eq_true.1 this.2 i (List.mem_range.2 hi)
  rw [ha] at h2
  exact h2
 refine ⟨fun j o e ho he hb => ?_, fun i j a b hij ha hb => ?_⟩
 · have := List.all_eq_true.1 (at_ j o ho).1 e (Array.mem_toList_iff.2 he)
   rw [hb] at this
   simpa using this
 · have := (at_ j b hb).2 i a hij ha
   unfold sk at this
   rw [Bool.or_eq_true] at this
   rcases this with this | this
   · exact .inl (ud ops.toList [] rfl (fun j i h => by simp at h) j i this)
   · right
     simp only [Bool.and_eq_true] at this
     obtain ⟨⟨h1, h2⟩, h3⟩ := this
     refine ⟨fun d hd => ?_, fun d hd => ?_, fun p1 p2 => ?_⟩
     · rw [hd] at h1
       simp only [Bool.and_eq_true, Bool.not_eq_true', bne_iff_ne, ne_eq] at h1
       exact ⟨fun hm => by rw [List.contains_iff_mem.2 hm] at h1; exact absurd h1.1 (by simp), h1.2⟩
     · rw [hd] at h2
       intro hm
       simp only [Bool.not_eq_true'] at h2
       rw [List.contains_iff_mem.2 hm] at h2
       cases h2
     · rw [p1, p2] at h3
       simpa [or_assoc] using h3
theorem aP.tC {ι : Lay} {v v' : Value} (r : aP ι v v') (h : fY v = true) : v' = v := by
 have key : ∀ {xs ys : Array Value}, xs.size = ys.size → (∀ (i : Nat) u u', xs[i]? = some u → ys[i]? = some u' → aP ι u u') → xs.all aX = true → ys = xs := by
  intro xs ys h1 h2 h3
  apply Array.ext
  · exact h1.symm
  · intro i hi hj
    have h4 := h2 i xs[i] ys[i] (Array.getElem?_eq_getElem hj) (Array.getElem?_eq_getElem hi)
    exact h4.plain (Array.all_eq_true_iff_forall_mem.1 h3 _ (Array.getElem_mem hj))
 cases r with
 | atom _ => rfl
 | agg h1 h2 => rw [key h1 h2 h]
 | tuple h1 h2 => rw [key h1 h2 h]
 | ptr _ _ => simp [fY, aX] at h
 | map _ _ => simp [fY, aX] at h
 | slice _ _ _ _ => simp [fY, aX] at h
 | eu _ _ => simp [fY, aX] at h
 | func _ _ _ _ => simp [fY, aX] at h
 | iface _ => simp [fY, aX] at h
 | wI _ => simp [fY, aX] at h
theorem xO.plain {n : Nat} {v : Value} (h : fY v = true) : xO n v := fun ι v' r => by
 rw [r.tC h]
 exact .const h
variable {P : Program} {base : Nat} {ι : Lay} {w w' : World}
theorem trace {ops : Array Oper} {mq lz : Nat → Bool} {Z : List (Nat × Bool)} {todo : List Nat} {s s' : bN} (ht : hY P .none ops mq lz Z todo s s') :
  ∃ (st : Nat → bN) (vv : Nat → Value) (bb : Nat → Nat) (late : Nat → Bool), st 0 = s ∧ st todo.length = s' ∧
   (∀ p i, todo[p]? = some i → ∃ o, ops[i]? = some o ∧
    ((late p = false ∧ ((cv ops o (st p) = false ∧ vv p = undef ∧ st (p + 1) = (st p).put o.dst undef (st p).h) ∨
     (cv ops o (st p) = true ∧ lz i = false ∧ ∃ h', st (p + 1) = (st p).put o.dst (vv p) h' ∧ cF P .none (fun x y _ => y = x) o (st p) (vv p) h' ∧ (mq i = true → Quiet (st p).h h' ∧ cF P .none cU o (st p) (vv p) h') ∧ (WF (st p).h → WF h' ∧ (st p).h.n ≤ h'.n) ∧
      (cm o.op = true → h' = (st p).h ∧ ∀ g, cF P .none cU o { st p with h := g } (vv p) g)))) ∨
    (late p = true ∧ cv ops o (st p) = true ∧ st (p + 1) = (st p).put o.dst (vv p) (st p).h ∧ cm o.op = false ∧ xO (st p).h.n (vv p) ∧ ∀ g : ai, dh (g.o (bb p)) ((st p).h.o (bb p)) → cF P .none cU o { st p with h := g } (vv p) g))) ∧
   (∀ b ∈ Z, ∀ p, p ≤ todo.length → dh ((st p).h.o b.1) (s.h.o b.1)) ∧
   (∀ p, p < todo.length → late p = true → ∀ p', p ≤ p' → p' ≤ todo.length → dh ((st p').h.o (bb p)) ((st p).h.o (bb p))) ∧
   (∀ p i, todo[p]? = some i → late p = true → lz (i + 65536) = true → (bb p, true) ∈ Z) := by
 induction ht with
 | @nil Z s => exact ⟨fun _ => s, fun _ => undef, fun _ => 0, fun _ => false, rfl, rfl, fun p i h => by simp at h, fun _ _ _ _ => dh.refl _, (fun p h => by simp at h), fun p i h => by simp at h⟩
 | @op Z i o rest s v h' s' ho hw h1 h2 h3 h4 hl hz _ ih =>
  obtain ⟨st, vv, bb, late, e1, e2, e3, e4, e5, e6⟩ := ih
  refine ⟨fun p => match p with | 0 => s | p + 1 => st p, fun p => match p with | 0 => v | p + 1 => vv p, fun p => match p with | 0 => 0 | p + 1 => bb p, fun p => match p with | 0 => false | p + 1 => late p, rfl, e2, fun p j hp => ?_, fun b hb p hp => ?_, fun p hp hlt p' h5 h6 => ?_, fun p j hp hlt hez => ?_⟩
  · cases p with
    | zero =>
     simp at hp; subst hp
     exact ⟨o, ho, .inl ⟨rfl, .inr ⟨hw, hl, h', e1, h1, h2, h3, h4⟩⟩⟩
    | succ p => exact e3 p j (by simpa using hp)
  · cases p with
    | zero => exact dh.refl _
    | succ p =>
     have := e4 b hb p (by simpa using hp)
     rw [bk] at this
     exact this.trans (hz b hb)
  · cases p with
    | zero => cases hlt
    | succ p =>
     cases p' with
     | zero => omega
     | succ p' => exact e5 p (by simpa using hp) hlt p' (by omega) (by simpa using h6)
  · cases p with
    | zero => cases hlt
    | succ p => exact e6 p j (by simpa using hp) hlt hez
 | @lazy Z i o rest s v s' b ho hw h1 hp1 hez hpl hg _ ih =>
  obtain ⟨st, vv, bb, late, e1, e2, e3, e4, e5, e6⟩ := ih
  refine ⟨fun p => match p with | 0 => s | p + 1 => st p, fun p => match p with | 0 => v | p + 1 => vv p, fun p => match p with | 0 => b | p + 1 => bb p, fun p => match p with | 0 => true | p + 1 => late p, rfl, e2, fun p j hp => ?_, fun b' hb p hp => ?_, fun p hp hlt p' h5 h6 => ?_, fun p j hp hlt hez2 => ?_⟩
  · cases p with
    | zero =>
     simp at hp; subst hp
     exact ⟨o, ho, .inr ⟨rfl, hw, e1, hp1, xO.plain hpl, hg⟩⟩
    | succ p => exact e3 p j (by simpa using hp)
  · cases p with
    | zero => exact dh.refl _
    | succ p =>
     have := e4 b' (List.mem_cons_of_mem _ hb) p (by simpa using hp)
     rw [bk] at this
     exact this
  · cases p with
    | zero =>
     cases p' with
     | zero => exact dh.refl _
     | succ p' =>
      have := e4 (b, false) (by simp) p' (by simpa using h6)
      rw [bk] at this
      exact this
    | succ p =>
     cases p' with
     | zero => omega
     | succ p' => exact e5 p (by simpa using hp) hlt p' (by omega) (by simpa using h6)
  · cases p with
    | zero =>
     simp at hp
     rw [← hp, hez] at hez2
     cases hez2
    | succ p =>
     have := e6 p j (by simpa using hp) hlt hez2
     rcases List.mem_cons.1 this with q | q
     · injection q with _ q
       cases q
     · exact q
 | @early Z i o rest s v s' b ho hw h1 hp1 hpl hg hbz _ ih =>
  obtain ⟨st, vv, bb, late, e1, e2, e3, e4, e5, e6⟩ := ih
  refine ⟨fun p => match p with | 0 => s | p + 1 => st p, fun p => match p with | 0 => v | p + 1 => vv p, fun p => match p with | 0 => b | p + 1 => bb p, fun p => match p with | 0 => true | p + 1 => late p, rfl, e2, fun p j hp => ?_, fun b' hb p hp => ?_, fun p hp hlt p' h5 h6 => ?_, fun p j hp hlt hez2 => ?_⟩
  · cases p with
    | zero =>
     simp at hp; subst hp
     exact ⟨o, ho, .inr ⟨rfl, hw, e1, hp1, hpl, hg⟩⟩
    | succ p => exact e3 p j (by simpa using hp)
  · cases p with
    | zero => exact dh.refl _
    | succ p =>
     have := e4 b' hb p (by simpa using hp)
     rw [bk] at this
     exact this
  · cases p with
    | zero =>
     cases p' with
     | zero => exact dh.refl _
     | succ p' =>
      have := e4 (b, true) hbz p' (by simpa using h6)
      rw [bk] at this
      exact this
    | succ p =>
     cases p' with
     | zero => omega
     | succ p' => exact e5 p (by simpa using hp) hlt p' (by omega) (by simpa using h6)
  · cases p with
    | zero => exact hbz
    | succ p => exact e6 p j (by simpa using hp) hlt hez2
 | @skip Z i o rest s s' ho hw _ ih =>
  obtain ⟨st, vv, bb, late, e1, e2, e3, e4, e5, e6⟩ := ih
  refine ⟨fun p => match p with | 0 => s | p + 1 => st p, fun p => match p with | 0 => undef | p + 1 => vv p, fun p => match p with | 0 => 0 | p + 1 => bb p, fun p => match p with | 0 => false | p + 1 => late p, rfl, e2, fun p j hp => ?_, fun b hb p hp => ?_, fun p hp hlt p' h5 h6 => ?_, fun p j hp hlt hez => ?_⟩
  · cases p with
    | zero =>
     simp at hp; subst hp
     exact ⟨o, ho, .inl ⟨rfl, .inl ⟨hw, rfl, e1⟩⟩⟩
    | succ p => exact e3 p j (by simpa using hp)
  · cases p with
    | zero => exact dh.refl _
    | succ p =>
     have := e4 b hb p (by simpa using hp)
     rw [bk] at this
     exact this
  · cases p with
    | zero => cases hlt
    | succ p =>
     cases p' with
     | zero => omega
     | succ p' => exact e5 p (by simpa using hp) hlt p' (by omega) (by simpa using h6)
  · cases p with
    | zero => cases hlt
    | succ p => exact e6 p j (by simpa using hp) hlt hez
end Go.Proofs.YthekokdpplobhaaGreat.Eng
set_option linter.unusedVariables false
set_option linter.unusedSimpArgs false
namespace Go.Proofs.YthekokdpplobhaaGreat.Eng
variable {P : Program} {base : Nat} {ι : Lay} {w w' : World} {G : Nat → ai} {m R : Nat} {E : Nat → Prop} {ιm : Lay} {wm : World}
def qY (n : Nat) : ai := { n := n, o := fun _ => .dead }
structure Calm (w w' : World) : Prop where
 os : w'.os = w.os
 tape : w'.tape = w.tape
 output : w'.output = w.output
 size : w.heap.size ≤ w'.heap.size
 block : ∀ B, B < w.heap.size → w'.heap[B]? = w.heap[B]?
 cell : ∀ B off v, w.cell? ⟨B, off, none⟩ = some v → w'.cell? ⟨B, off, none⟩ = some v
 frozen : ∀ B off v, w.cell? ⟨B, off, none⟩ = some v → w'.frozen? ⟨B, off, none⟩ = w.frozen? ⟨B, off, none⟩
theorem bn.calm {h : ai} (hr : bn base ι h w) (hc : Calm w w') : bn base ι h w' :=
 ⟨hr.lt, fun b e hb => Nat.lt_of_lt_of_le (hr.gG b e hb) hc.size, hr.na, fun b e c i v hb hmp hc' hi => by
  obtain ⟨v', h1, h2⟩ := hr.val b e c i v hb hmp hc' hi
  exact ⟨v', hc.cell _ _ _ h1, h2⟩, fun b e sz f st k c i hb ho hi => by
  obtain ⟨⟨v, hv⟩, hf⟩ := hr.room b e _ _ _ _ _ i hb ho hi
  exact ⟨⟨v, hc.cell _ _ _ hv⟩, by rw [hc.frozen _ _ _ hv]; exact hf⟩, hr.apart, hr.link, hr.wf, hr.jw, hr.uniq, hr.out, fun b e sz ro f st k c hb hmp ho => by
  obtain ⟨q2, q3⟩ := hr.maps b e _ _ _ _ _ _ hb hmp ho
  exact ⟨q2, q3.world (hc.block _ (hr.gG b e hb))⟩⟩
theorem wj {n : Nat} (hn : ∀ b e, ι b = some e → b < n) (hb : ∀ b e, ι b = some e → e.block < w.heap.size) : bn base ι (qY n) w :=
 ⟨hn, hb, fun _ _ _ _ _ _ _ _ _ h => (by cases h), fun _ _ _ _ _ _ _ h => (by cases h), fun _ _ _ _ _ _ _ _ _ h => (by cases h), fun _ _ _ _ _ _ _ _ _ _ _ _ _ _ _ _ _ h => (by cases h),
  fun _ _ _ _ _ _ _ _ _ _ _ _ _ _ _ _ _ h => (by cases h), fun _ _ _ _ _ _ _ h => (by cases h), fun _ _ _ _ _ _ _ h => (by cases h), fun _ _ _ _ _ _ _ _ _ _ _ _ h => (by cases h), fun _ _ => rfl, fun _ _ _ _ _ _ _ _ _ _ h => (by cases h)⟩
theorem dE.calm {h : ai} (hk : dE ι h h w w') : Calm w w' :=
 ⟨hk.os, hk.tape, hk.output, hk.size, fun B hB => hk.block B hB fun _ _ _ _ => .inl rfl, fun B off v hc => hk.cell B off v hc fun _ _ _ _ _ _ => .inl rfl, fun B off v hc => (hk.there B off v hc).2⟩
theorem bg.calm {h h' : ai} {w0 : World} (hk : bg ι h h' w0 w) (hc : Calm w w') : bg ι h h' w0 w' :=
 ⟨hc.os.trans hk.os, hc.tape.trans hk.tape, hc.output.trans hk.output, Nat.le_trans hk.size hc.size, fun B hB hall => by
  rw [hc.block B (Nat.lt_of_lt_of_le hB hk.size)]; exact hk.block B hB hall, fun B off v h hall => hc.cell _ _ _ (hk.cell B off v h hall), fun B off v h => by
  obtain ⟨⟨v', hv'⟩, hf⟩ := hk.there B off v h
  exact ⟨⟨v', hc.cell _ _ _ hv'⟩, by rw [hc.frozen _ _ _ hv']; exact hf⟩⟩
theorem iu.calm (hQ : iu base G m R E ιm wm ι w) (hc : Calm w w') : iu base G m R E ιm wm ι w' :=
 ⟨hQ.old, hQ.yq, fun i h1 h2 => (hQ.rel i h1 h2).calm hc, hQ.jw, hQ.full, hQ.new, hQ.mH, bg.calm hQ.aq hc⟩
theorem iu.congr {E' : Nat → Prop} (hQ : iu base G m R E ιm wm ι w) (he : ∀ q, m ≤ q → q < R → (E q ↔ E' q)) : iu base G m R E' ιm wm ι w :=
 ⟨hQ.old, fun y e hy => by
  rcases hQ.yq y e hy with h | ⟨q, h1, h2, h3, h4⟩
  · exact .inl h
  · exact .inr ⟨q, h1, h2, (he q h1 h2).1 h3, h4⟩, hQ.rel, hQ.jw, fun q h1 h2 h3 => hQ.full q h1 h2 ((he q h1 h2).2 h3), hQ.new, hQ.mH, hQ.aq⟩
theorem Calm.drawn (w : World) (n : Nat) : Calm w { w with drawn := n } :=
 ⟨rfl, rfl, rfl, Nat.le_refl _, fun _ _ => rfl, fun _ _ _ h => h, fun _ _ _ _ => rfl⟩
theorem iu.lt (hQ : iu base G m R E ιm wm ι w) (hq : ∀ i, m ≤ i → i < R → Quiet (G i) (G (i + 1))) (hmR : m ≤ R) {y : Nat} {e : Ext} (hy : ι y = some e) : y < (G R).n := by
 rcases hQ.yq y e hy with h | ⟨q, h1, h2, _, _, h4⟩
 · exact Nat.lt_of_lt_of_le h (chain hq R m (Nat.le_refl _) hmR (Nat.le_refl _)).1
 · exact Nat.lt_of_lt_of_le h4 (chain hq R (q + 1) (by omega) (by omega) (Nat.le_refl _)).1
theorem iu.done (hQ : iu base G m R E ιm wm ι w) (hq : ∀ i, m ≤ i → i < R → Quiet (G i) (G (i + 1))) (hmR : m ≤ R) (hall : ∀ q, m ≤ q → q < R → E q ∨ G (q + 1) = G q) :
  bn base ι (G R) w ∧ bw base ιm ι (G m) (G R) wm := by
 have hcut : ι.cut (G R).n = ι := by
  funext y
  unfold Lay.cut
  split
  · rfl
  · cases hy : ι y with
    | none => rfl
    | some e => exact absurd (hQ.lt hq hmR hy) (by assumption)
 have hr := hQ.rel R hmR (Nat.le_refl _)
 rw [hcut] at hr
 have hfull : ∀ j, m ≤ j → j ≤ R → ∀ b, (G m).n ≤ b → b < (G j).n → ∃ e, ι b = some e := by
  intro j
  induction j with
  | zero =>
   intro h1 _ b h2 h3
   have e : m = 0 := by omega
   subst e; omega
  | succ j ih =>
   intro h1 h2 b h3 h4
   rcases Nat.lt_or_ge j m with q | q
   · have e : m = j + 1 := by omega
     subst e; omega
   · rcases Nat.lt_or_ge b (G j).n with r | r
     · exact ih q (by omega) b h3 r
     · rcases hall j q (by omega) with s | s
       · exact hQ.full j q (by omega) s b r h4
       · rw [s] at h4; omega
 exact ⟨hr, ⟨hQ.old, hQ.new, fun b sz ro f st k c hb ho => by
  obtain ⟨e, he⟩ := hfull R hmR (Nat.le_refl _) b hb (hr.oa.lt ho)
  exact hQ.mH b e _ _ _ _ _ _ hb he ho, hfull R hmR (Nat.le_refl _), fun b hb => (chain hq R m (Nat.le_refl _) hmR (Nat.le_refl _)).mw hb, (chain hq R m (Nat.le_refl _) hmR (Nat.le_refl _)).1⟩⟩
theorem vt (hQ : iu base G m R E ιm wm ι w) (hq : ∀ i, m ≤ i → i < R → Quiet (G i) (G (i + 1))) {q : Nat} (h1 : m ≤ q) (h2 : q < R) (hE : ¬ E q) (κ : Lay) {y : Nat} {e : Ext} (hy : ι y = some e) :
  (ι.with κ (G q).n (G (q + 1)).n) y = some e := by
 have nle : ∀ i j, m ≤ i → i ≤ j → j ≤ R → (G i).n ≤ (G j).n := fun i j a b c => (chain hq j i a b c).1
 have hmq := nle m q (Nat.le_refl _) h1 (by omega)
 unfold Lay.with
 rw [if_neg]
 · exact hy
 · rintro ⟨a, b⟩
   rcases hQ.yq y e hy with c | ⟨q2, c1, c2, c3, c4, c5⟩
   · omega
   · rcases Nat.lt_trichotomy q2 q with d | d | d
     · have := nle (q2 + 1) q (by omega) (by omega) (by omega); omega
     · subst d; exact hE c3
     · have := nle (q + 1) q2 (by omega) (by omega) (by omega); omega
theorem uU {q : Nat} {κ : Lay} (hm : bw base (ι.cut (G q).n) κ (G q) (G (q + 1)) w) (hr : bn base κ (G (q + 1)) w') {y : Nat} {e : Ext} (hy : κ y = some e) :
  (ι.with κ (G q).n (G (q + 1)).n) y = some e := by
 unfold Lay.with
 split
 · exact hy
 · rename_i hn
   have := hr.lt y e hy
   have h2 := hm.old y (by omega)
   rw [hy] at h2
   exact (bD h2.symm).2
end Go.Proofs.YthekokdpplobhaaGreat.Eng
set_option linter.unusedVariables false
set_option linter.unusedSimpArgs false
namespace Go.Proofs.YthekokdpplobhaaGreat.Eng
variable {P : Program} {base : Nat} {ι : Lay} {w w' : World}
def Wr (ops : Array Oper) (aJ : Array Bool) (t i : Nat) : Prop := aJ.getD i false = true ∧ ∃ o, ops[i]? = some o ∧ o.dst = some t
def Np (ops : Array Oper) (st : Nat → bN) (late : Nat → Bool) (i : Nat) : Prop := ∃ o, ops[i]? = some o ∧ cv ops o (st i) = true ∧ cm o.op = false ∧ late i = false
def xL (P : Program) (ops : Array Oper) (mq lz : Nat → Bool) (late : Bool) (i : Nat) (o : Oper) (s : bN) (v : Value) (b : Nat) (s' : bN) : Prop :=
 (cv ops o s = false ∧ v = undef ∧ s' = s.put o.dst undef s.h) ∨
 (cv ops o s = true ∧ ∃ h', s' = s.put o.dst v h' ∧ ((late = false ∧ lz i = false ∧ cF P .none (fun x y _ => y = x) o s v h' ∧ (mq i = true → Quiet s.h h' ∧ cF P .none cU o s v h') ∧ (WF s.h → WF h' ∧ s.h.n ≤ h'.n) ∧
  (cm o.op = true → h' = s.h ∧ ∀ g, cF P .none cU o { s with h := g } v g)) ∨
  (late = true ∧ h' = s.h ∧ cm o.op = false ∧ xO s.h.n v ∧ ∀ g : ai, dh (g.o b) (s.h.o b) → cF P .none cU o { s with h := g } v g)))
structure xu (ops : Array Oper) (st : Nat → bN) (vv : Nat → Value) (aJ : Array Bool) (ι : Lay) (a : Act) : Prop where
 some : ∀ t i, Wr ops aJ t i → (∀ k, Wr ops aJ t k → k ≤ i) → aP (ι.cut (st (i + 1)).h.n) (vv i) (a.tmps.getD t undef)
 none : ∀ t, (∀ i, ¬ Wr ops aJ t i) → aP (ι.cut (st 0).h.n) ((st 0).t t) (a.tmps.getD t undef)
theorem rP (p : Nat → Prop) (n : Nat) : ∀ d m, m + d = n → ∃ R, m ≤ R ∧ R ≤ n ∧ (∀ i, m ≤ i → i < R → ¬ p i) ∧ (R < n → p R) := by
 intro d
 induction d with
 | zero => intro m h; exact ⟨m, Nat.le_refl _, by omega, fun i h1 h2 => by omega, fun h => by omega⟩
 | succ d ih =>
  intro m h
  by_cases hp : p m
  · exact ⟨m, Nat.le_refl _, by omega, fun i h1 h2 => by omega, fun _ => hp⟩
  · obtain ⟨R, h1, h2, h3, h4⟩ := ih (m + 1) (by omega)
    refine ⟨R, by omega, h2, fun i h5 h6 => ?_, h4⟩
    rcases Nat.lt_or_ge m i with q | q
    · exact h3 i q h6
    · have : i = m := by omega
      subst this; exact hp
def left (n : Nat) (aJ : Array Bool) : Nat := ((List.range n).filter fun i => !aJ.getD i true).length
theorem vH {n i : Nat} {aJ : Array Bool} (hi : i < n) (hs : aJ.size = n) (hl : aJ.getD i true = false) : left n (aJ.setIfInBounds i true) < left n aJ := by
 unfold left
 have key : ∀ (l : List Nat), i ∈ l → l.Nodup → (l.filter fun j => !(aJ.setIfInBounds i true).getD j true).length < (l.filter fun j => !aJ.getD j true).length := by
  have le : ∀ (l : List Nat), (l.filter fun j => !(aJ.setIfInBounds i true).getD j true).length ≤ (l.filter fun j => !aJ.getD j true).length := by
   intro l
   induction l with
   | nil => simp
   | cons x l ih =>
    by_cases hx : x = i
    · subst hx
      have e1 : (aJ.setIfInBounds x true).getD x true = true := by simp [hs, hi]
      rw [List.filter_cons, List.filter_cons, e1, hl]
      simp only [Bool.not_true, Bool.not_false, Bool.false_eq_true, if_false, if_true, List.length_cons]
      omega
    · have e1 : (aJ.setIfInBounds i true).getD x true = aJ.getD x true := getD_set_ne true (fun e => hx e.symm)
      rw [List.filter_cons, List.filter_cons, e1]
      split <;> (try simp only [List.length_cons]) <;> omega
  intro l
  induction l with
  | nil => intro h; simp at h
  | cons x l ih =>
   intro hm hd
   by_cases hx : x = i
   · subst hx
     have e1 : (aJ.setIfInBounds x true).getD x true = true := by simp [hs, hi]
     rw [List.filter_cons, List.filter_cons, e1, hl]
     simp only [Bool.not_true, Bool.not_false, Bool.false_eq_true, if_false, if_true, List.length_cons]
     have := le l
     omega
   · have e1 : (aJ.setIfInBounds i true).getD x true = aJ.getD x true := getD_set_ne true (fun e => hx e.symm)
     have := ih (by simpa [Ne.symm hx] using hm) (List.nodup_cons.1 hd).2
     rw [List.filter_cons, List.filter_cons, e1]
     split <;> (try simp only [List.length_cons]) <;> omega
 exact key _ (List.mem_range.2 hi) List.nodup_range
theorem uI {n : Nat} {aJ : Array Bool} (h : left n aJ = 0) (i : Nat) (hi : i < n) : aJ.getD i true = true := by
 unfold left at h
 have := List.length_eq_zero_iff.1 h
 cases hx : aJ.getD i true with
 | true => rfl
 | false =>
  have hm : i ∈ (List.range n).filter fun i => !aJ.getD i true := List.mem_filter.2 ⟨List.mem_range.2 hi, by rw [hx]; rfl⟩
  rw [this] at hm
  cases hm
theorem mJ {aJ : Array Bool} {i : Nat} (hi : i < aJ.size) : aJ.getD i true = aJ.getD i false := by
 simp [Array.getD_eq_getD_getElem?, Array.getElem?_eq_getElem hi]
structure wX (P : Program) (ops : Array Oper) (mq : Nat → Bool) (st : Nat → bN) (late : Nat → Bool) (vv : Nat → Value) (base : Nat) (ι0 : Lay) (a0 : Act) (w0 : World) (aJ : Array Bool) (a : Act) (w : World) : Prop where
 size : aJ.size = ops.size
 closed : rK ops aJ
 tmps : a.tmps.size = (st 0).m
 defers : a.defers = a0.defers
 qT : w0.heap.size ≤ w.heap.size
 inv : ∃ m R ιm wm ι, m ≤ R ∧ R ≤ ops.size ∧ (∀ i, i < m → Np ops st late i → aJ.getD i false = true) ∧ (∀ i, R ≤ i → Np ops st late i → aJ.getD i false = false) ∧
  (∀ i, m ≤ i → i < R → Np ops st late i → mq i = true) ∧ (R < ops.size → Np ops st late R ∧ mq R = false) ∧
  iu base (fun i => (st i).h) m R (fun i => Np ops st late i ∧ aJ.getD i false = true) ιm wm ι w ∧
  bn base ιm (st m).h wm ∧ bw base ι0 ιm (st 0).h (st m).h w0 ∧ bg ι0 (st 0).h (st m).h w0 wm ∧ xu ops st vv aJ ι a
theorem nm {ops : Array Oper} {mq lz : Nat → Bool} (hm : P.follows .mixedOrders = true) (hok : oo ops mq lz = true) : sN P ops mq lz := by
 intro Z s s' hreg htr id r base ι0 a0 w0 Q hs hq
 obtain ⟨back, pair⟩ := tS hok
 obtain ⟨st, vv, bb, late, hst0, hstn, hsteps, hfix, hlate, hear⟩ := trace htr
 rw [List.length_range] at hstn hlate hfix
 have step : ∀ i, i < ops.size → ∃ o, ops[i]? = some o ∧ xL P ops mq lz (late i) i o (st i) (vv i) (bb i) (st (i + 1)) := by
  intro i hi
  obtain ⟨o, ho, h⟩ := hsteps i i (by rw [List.getElem?_range hi])
  refine ⟨o, ho, ?_⟩
  rcases h with ⟨hl, ⟨q1, q2, q3⟩ | ⟨q1, q2, h', q3, q4⟩⟩ | ⟨hl, q1, q2, q3⟩
  · exact .inl ⟨q1, q2, q3⟩
  · exact .inr ⟨q1, h', q3, .inl ⟨hl, q2, q4⟩⟩
  · exact .inr ⟨q1, _, q2, .inr ⟨hl, rfl, q3⟩⟩
 have stepT : ∀ i o, ops[i]? = some o → ∀ t, (st (i + 1)).t t = if o.dst = some t then vv i else (st i).t t := by
  intro i o ho t
  have hi := (Array.getElem?_eq_some_iff.1 ho).1
  obtain ⟨o', ho', hk⟩ := step i hi
  obtain rfl := Option.some.inj (ho.symm.trans ho')
  have key : ∀ v h', st (i + 1) = (st i).put o.dst v h' → (st (i + 1)).t t = if o.dst = some t then v else (st i).t t := by
   intro v h' e
   rw [e]
   cases hd : o.dst with
   | none => simp [bN.put]
   | some d =>
    simp only [bN.put, Option.some.injEq]
    by_cases h : t = d
    · rw [if_pos h, if_pos h.symm]
    · rw [if_neg h, if_neg fun e => h e.symm]
  rcases hk with ⟨_, h1, h2⟩ | ⟨_, h', h2, _⟩
  · rw [h1]; exact key _ _ h2
  · exact key _ _ h2
 have tg : ∀ i, i ≤ ops.size → (st i).m = (st 0).m := by
  intro i
  induction i with
  | zero => intro _; rfl
  | succ i ih =>
   intro hi
   obtain ⟨o, ho, hk⟩ := step i (by omega)
   rcases hk with ⟨_, _, h2⟩ | ⟨_, h', h2, _⟩ <;> rw [h2, dR, ih (by omega)]
 have stepWG : ∀ i, i ≤ ops.size → WF (st i).h ∧ ∀ k, k ≤ i → (st k).h.n ≤ (st i).h.n := by
  intro i
  induction i with
  | zero =>
   intro _
   refine ⟨by rw [hst0]; exact hs.heap.oa, fun k hk => ?_⟩
   have e : k = 0 := by omega
   rw [e]
   exact Nat.le_refl _
  | succ i ih =>
   intro hi
   obtain ⟨i1, i2⟩ := ih (by omega)
   have key : WF (st (i + 1)).h ∧ (st i).h.n ≤ (st (i + 1)).h.n := by
    obtain ⟨o, ho, hk⟩ := step i (by omega)
    rcases hk with ⟨_, _, h2⟩ | ⟨_, h', h2, ⟨_, _, _, _, h3, _⟩ | ⟨_, h3, _⟩⟩
    · rw [h2, bk]; exact ⟨i1, Nat.le_refl _⟩
    · rw [h2, bk]; exact h3 i1
    · rw [h2, bk, h3]; exact ⟨i1, Nat.le_refl _⟩
   refine ⟨key.1, fun k hk => ?_⟩
   rcases Nat.lt_or_ge k (i + 1) with q | q
   · exact Nat.le_trans (i2 k (by omega)) key.2
   · have e : k = i + 1 := by omega
     rw [e]; exact Nat.le_refl _
 have stepWF : ∀ i, i ≤ ops.size → WF (st i).h := fun i hi => (stepWG i hi).1
 have stepN : ∀ i j, i ≤ j → j ≤ ops.size → (st i).h.n ≤ (st j).h.n := fun i j h1 h2 => (stepWG j h2).2 i h1
 have notNp : ∀ i, i < ops.size → ¬ Np ops st late i → (st (i + 1)).h = (st i).h := by
  intro i hi hn
  obtain ⟨o, ho, hk⟩ := step i hi
  rcases hk with ⟨_, _, h2⟩ | ⟨hw, h', h2, ⟨hlt, _, _, _, _, h3⟩ | ⟨_, h3, _⟩⟩
  · rw [h2, bk]
  · rw [h2, bk]
    cases hp : cm o.op with
    | true => exact (h3 hp).1
    | false => exact absurd ⟨o, ho, hw, hp, hlt⟩ hn
  · rw [h2, bk, h3]
 have npLt : ∀ i, Np ops st late i → i < ops.size := fun i ⟨o, ho, _⟩ => (Array.getElem?_eq_some_iff.1 ho).1
 have npLz : ∀ i, Np ops st late i → lz i = false := by
  rintro i ⟨o, ho, hw, hp, hl⟩
  obtain ⟨o', ho', hk⟩ := step i (Array.getElem?_eq_some_iff.1 ho).1
  obtain rfl := Option.some.inj (ho.symm.trans ho')
  rcases hk with ⟨q1, _⟩ | ⟨_, h', _, ⟨_, q2, _⟩ | ⟨q2, _⟩⟩
  · rw [hw] at q1; cases q1
  · exact q2
  · rw [hl] at q2; cases q2
 have quietOf : ∀ i, i < ops.size → (Np ops st late i → mq i = true) → Quiet (st i).h (st (i + 1)).h := by
  intro i hi hmq
  by_cases hn : Np ops st late i
  · obtain ⟨o, ho, hk⟩ := step i hi
    rcases hk with ⟨hw, _, _⟩ | ⟨hw, h', h2, ⟨_, _, _, h3, _⟩ | ⟨_, h3, _⟩⟩
    · obtain ⟨o', ho', hw', _⟩ := hn
      obtain rfl := Option.some.inj (ho.symm.trans ho')
      rw [hw] at hw'; cases hw'
    · rw [h2, bk]; exact (h3 (hmq hn)).1
    · rw [h2, bk, h3]; exact Quiet.refl _
  · rw [notNp i hi hn]; exact Quiet.refl _
 have loudAt : ∀ m, m ≤ ops.size → ∃ R, m ≤ R ∧ R ≤ ops.size ∧ (∀ i, m ≤ i → i < R → Np ops st late i → mq i = true) ∧ (R < ops.size → Np ops st late R ∧ mq R = false) := by
  intro m hm
  obtain ⟨R, h1, h2, h3, h4⟩ := rP (fun i => Np ops st late i ∧ mq i = false) ops.size (ops.size - m) m (by omega)
  refine ⟨R, h1, h2, fun i a b c => ?_, h4⟩
  cases hx : mq i with
  | true => rfl
  | false => exact absurd ⟨c, hx⟩ (h3 i a b)
 have walk : ∀ fuel aJ a w, left ops.size aJ ≤ fuel → wX P ops mq st late vv base ι0 a0 w0 aJ a w → wpAnyIn (FR r) 0 P .any ops Q fuel aJ a w := by
  intro fuel
  have fin : ∀ aJ a w, (∀ i, i < ops.size → aJ.getD i false = true) → wX P ops mq st late vv base ι0 a0 w0 aJ a w → Q .normal a w := by
   intro aJ a w hall hD
   obtain ⟨m, R, ιm, wm, ι, d1, d2, d3, d4, d5, d6, hQ, d7, d8, d9, hT⟩ := hD.inv
   have hR : R = ops.size := by
    rcases Nat.lt_or_ge R ops.size with q | q
    · have := d4 R (Nat.le_refl _) (d6 q).1
      rw [hall R q] at this; cases this
    · omega
   subst hR
   have hquiet : ∀ i, m ≤ i → i < ops.size → Quiet (st i).h (st (i + 1)).h := fun i a b => quietOf i b (d5 i a b)
   obtain ⟨hr, hm⟩ := hQ.done hquiet d1 fun q h1 h2 => by
    by_cases hn : Np ops st late q
    · exact .inl ⟨hn, hall q h2⟩
    · exact .inr (notNp q h2 hn)
   refine hq ι a w ⟨?_, fun t => ?_, ?_, Nat.le_trans hs.base hD.qT⟩ ?_ ?_ hD.defers
   · rw [hD.tmps, ← hstn, tg ops.size (Nat.le_refl _)]
   ·
     have tval : ∀ n, n ≤ ops.size → ((∃ i o, i < n ∧ ops[i]? = some o ∧ o.dst = some t ∧ (∀ k, i < k → k < n → ∀ o', ops[k]? = some o' → o'.dst ≠ some t) ∧ (st n).t t = vv i) ∨
       ((∀ k, k < n → ∀ o', ops[k]? = some o' → o'.dst ≠ some t) ∧ (st n).t t = (st 0).t t)) := by
      intro n
      induction n with
      | zero => intro _; exact .inr ⟨fun k h => by omega, rfl⟩
      | succ n ih =>
       intro hn
       obtain ⟨o, ho, _⟩ := step n (by omega)
       have e1 := stepT n o ho t
       by_cases hd : o.dst = some t
       · rw [if_pos hd] at e1
         exact .inl ⟨n, o, by omega, ho, hd, fun k h1 h2 => by omega, e1⟩
       · rw [if_neg hd] at e1
         rcases ih (by omega) with ⟨i, o2, h1, h2, h3, h4, h5⟩ | ⟨h1, h2⟩
         · refine .inl ⟨i, o2, by omega, h2, h3, fun k k1 k2 o' ho' => ?_, by rw [e1, h5]⟩
           rcases Nat.lt_or_ge k n with q | q
           · exact h4 k k1 q o' ho'
           · have : k = n := by omega
             subst this
             obtain rfl := Option.some.inj (ho.symm.trans ho')
             exact hd
         · refine .inr ⟨fun k k2 o' ho' => ?_, by rw [e1, h2]⟩
           rcases Nat.lt_or_ge k n with q | q
           · exact h1 k q o' ho'
           · have : k = n := by omega
             subst this
             obtain rfl := Option.some.inj (ho.symm.trans ho')
             exact hd
     rw [← hstn]
     rcases tval ops.size (Nat.le_refl _) with ⟨i, o, h1, h2, h3, h4, h5⟩ | ⟨h1, h2⟩
     · rw [h5]
       refine (hT.some t i ⟨hall i h1, o, h2, h3⟩ fun k ⟨_, o', ho', hd'⟩ => ?_).mono fun b e hb => (bD hb).2
       rcases Nat.lt_or_ge i k with q | q
       · exact absurd hd' (h4 k q (Array.getElem?_eq_some_iff.1 ho').1 o' ho')
       · exact q
     · rw [h2]
       exact (hT.none t fun i ⟨_, o', ho', hd'⟩ => h1 i (Array.getElem?_eq_some_iff.1 ho').1 o' ho' hd').mono fun b e hb => (bD hb).2
   · rw [← hstn]; exact hr
   · rw [← hstn, ← hst0]; exact bw.trans (by rw [hst0]; exact hs.heap) d7 d8 hm d9.size
   · rw [← hstn, ← hst0]; exact bg.trans (by rw [hst0]; exact hs.heap) d7 d8 hm d9 hQ.aq
  have one : ∀ aJ a w j, wX P ops mq st late vv base ι0 a0 w0 aJ a w → j ∈ Region.ready .any ops aJ →
    ∀ K : Act → World → Prop, (∀ a' w', wX P ops mq st late vv base ι0 a0 w0 (aJ.setIfInBounds j true) a' w' → K a' w') → wpOpIn (FR r) 0 P ops Q j K a w := by
   intro aJ a w j hD hj K hK
   obtain ⟨hjun, o, ho, hpre⟩ := mem_ready.1 hj
   have hjn : j < ops.size := (Array.getElem?_eq_some_iff.1 ho).1
   have hjl : aJ.getD j false = false := by rw [← mJ (by rw [hD.size]; exact hjn)]; exact hjun
   have hpre' : ∀ o' e, ops[j]? = some o' → e ∈ o'.after → Region.binds .any e = true → aJ.getD e.on false = true := fun o' e ho' he hb => by
    obtain rfl := Option.some.inj (ho.symm.trans ho'); exact hpre e he hb
   have before : ∀ i, Reach ops i j → aJ.getD i false = true := fun i hr => hr.aJ hD.closed hpre'
   have notAfter : ∀ k, aJ.getD k false = true → ¬ Reach ops j k := fun k hk hr => by
    have := hr.aJ hD.closed fun o' e ho' he hb => hD.closed k o' e ho' hk he hb
    rw [hjl] at this; cases this
   obtain ⟨m, R, ιm, wm, ι, d1, d2, d3, d4, d5, d6, hQ, d7, d8, d9, hT⟩ := hD.inv
   have hquiet : ∀ i, m ≤ i → i < R → Quiet (st i).h (st (i + 1)).h := fun i a b => quietOf i (by omega) (d5 i a b)
   obtain ⟨k1, k2⟩ := iP hreg ho
   have hset : ∀ i, (aJ.setIfInBounds j true).getD i false = true ↔ aJ.getD i false = true ∨ i = j := by
    intro i
    by_cases e : i = j
    · subst e; simp [hD.size, hjn]
    · rw [getD_set_ne false (fun e' => e e'.symm)]; simp [e]
   have hclosed' : rK ops (aJ.setIfInBounds j true) := by
    intro i o' e ho' hi he hb
    rw [hset] at hi ⊢
    rcases hi with hi | rfl
    · exact .inl (hD.closed i o' e ho' hi he hb)
    · exact .inl (hpre' o' e ho' he hb)
   have hsize' : (aJ.setIfInBounds j true).size = ops.size := by simp [hD.size]
   have hWr' : ∀ t i, Wr ops (aJ.setIfInBounds j true) t i ↔ Wr ops aJ t i ∨ (i = j ∧ o.dst = some t) := by
    intro t i
    unfold Wr
    rw [hset]
    constructor
    · rintro ⟨h1 | rfl, o', h2, h3⟩
      · exact .inl ⟨h1, o', h2, h3⟩
      · obtain rfl := Option.some.inj (ho.symm.trans h2)
        exact .inr ⟨rfl, h3⟩
    · rintro (⟨h1, h2⟩ | ⟨rfl, h2⟩)
      · exact ⟨.inl h1, h2⟩
      · exact ⟨.inr rfl, o, ho, h2⟩
   have reads : ∀ t, t ∈ jE ops o → aP (ι.cut (st j).h.n) ((st j).t t) (a.tmps.getD t undef) := by
    intro t ht
    have tval : ∀ n, n ≤ j → ((∃ i o, i < n ∧ ops[i]? = some o ∧ o.dst = some t ∧ (∀ k, i < k → k < n → ∀ o', ops[k]? = some o' → o'.dst ≠ some t) ∧ (st n).t t = vv i) ∨
      ((∀ k, k < n → ∀ o', ops[k]? = some o' → o'.dst ≠ some t) ∧ (st n).t t = (st 0).t t)) := by
     intro n
     induction n with
     | zero => intro _; exact .inr ⟨fun k h => by omega, rfl⟩
     | succ n ih =>
      intro hn
      obtain ⟨o, ho, _⟩ := step n (by omega)
      have e1 := stepT n o ho t
      by_cases hd : o.dst = some t
      · rw [if_pos hd] at e1
        exact .inl ⟨n, o, by omega, ho, hd, fun k h1 h2 => by omega, e1⟩
      · rw [if_neg hd] at e1
        rcases ih (by omega) with ⟨i, o2, h1, h2, h3, h4, h5⟩ | ⟨h1, h2⟩
        · refine .inl ⟨i, o2, by omega, h2, h3, fun k k1 k2 o' ho' => ?_, by rw [e1, h5]⟩
          rcases Nat.lt_or_ge k n with q | q
          · exact h4 k k1 q o' ho'
          · have : k = n := by omega
            subst this
            obtain rfl := Option.some.inj (ho.symm.trans ho')
            exact hd
        · refine .inr ⟨fun k k2 o' ho' => ?_, by rw [e1, h2]⟩
          rcases Nat.lt_or_ge k n with q | q
          · exact h1 k q o' ho'
          · have : k = n := by omega
            subst this
            obtain rfl := Option.some.inj (ho.symm.trans ho')
            exact hd
    have below : ∀ k, Wr ops aJ t k → k < j := by
     rintro k ⟨h1, o', h2, h3⟩
     rcases Nat.lt_trichotomy k j with q | q | q
     · exact q
     · subst q; rw [hjl] at h1; cases h1
     · rcases pair j k o o' q ho h2 with r | ⟨_, r, _⟩
       · exact absurd r (notAfter k h1)
       · exact absurd ht (r t h3)
    have mono : ∀ i, i < j → (st (i + 1)).h.n ≤ (st j).h.n := by
     intro i hi
     exact stepN (i + 1) j hi (by omega)
    rcases tval j (Nat.le_refl _) with ⟨i, oi, h1, h2, h3, h4, h5⟩ | ⟨h1, h2⟩
    · rw [h5]
      have hl : aJ.getD i false = true := by
       rcases pair i j oi o h1 h2 ho with r | ⟨r, _⟩
       · exact before i r
       · exact absurd ht (r t h3).1
      refine (hT.some t i ⟨hl, oi, h2, h3⟩ fun k hk => ?_).mono fun b e hb => ?_
      · have hkj := below k hk
        rcases Nat.lt_or_ge i k with q | q
        · obtain ⟨_, o', ho', hd'⟩ := hk
          exact absurd hd' (h4 k q hkj o' ho')
        · exact q
      · exact cd (Nat.lt_of_lt_of_le (bD hb).1 (mono i h1)) (bD hb).2
    · rw [h2]
      refine (hT.none t fun k hk => ?_).mono fun b e hb => ?_
      · have hkj := below k hk
        obtain ⟨_, o', ho', hd'⟩ := hk
        exact h1 k hkj o' ho' hd'
      · exact cd (Nat.lt_of_lt_of_le (bD hb).1 (stepN 0 j (by omega) (by omega))) (bD hb).2
   have operands : ∀ x ∈ o.op.operands, aP (ι.cut (st j).h.n) ((st j).ev x) (a.eval x) := by
    intro x hx
    cases x with
    | tmp t => exact reads t (by
      unfold jE
      refine List.mem_append_left _ (List.mem_filterMap.2 ⟨.tmp t, Array.mem_toList_iff.2 hx, rfl⟩))
    | const v => exact .const (k2 _ hx)
    | global g => cases k2 _ hx
    | func f => exact .func rfl (fun i v v' a _ => by simp at a) rfl (fun i v v' a _ => by simp at a)
   have hwant : Region.wanted o (yielded ops a.tmps) = cv ops o (st j) := iQ fun g want d hg hd => reads d (by
    unfold jE
    refine List.mem_append_right _ ?_
    rw [hg]
    simp [hd])
   have temps' : ∀ (ι' : Lay) (v' : Value), (∀ b e, ι b = some e → ι' b = some e) → aP (ι'.cut (st (j + 1)).h.n) (vv j) v' → xu ops st vv (aJ.setIfInBounds j true) ι' (a.put o.dst v') := by
    intro ι' v' hsub hv
    have kd : ∀ d, o.dst = some d → d < a.tmps.size := fun d hd => by rw [hD.tmps, hst0]; exact k1 d hd
    have cutsub : ∀ n b e, ι.cut n b = some e → ι'.cut n b = some e := fun n b e hb => cd (bD hb).1 (hsub b e (bD hb).2)
    refine ⟨fun t i hi hmax => ?_, fun t hno => ?_⟩
    · rw [fP rfl kd]
      rcases (hWr' t i).1 hi with h | ⟨rfl, h⟩
      · by_cases hd : o.dst = some t
        · exfalso
          have hji := hmax j ((hWr' t j).2 (.inr ⟨rfl, hd⟩))
          obtain ⟨hl, oi, hoi, hdi⟩ := h
          rcases Nat.lt_or_ge j i with q | q
          · rcases pair j i o oi q ho hoi with r | ⟨r, _⟩
            · exact notAfter i hl r
            · exact (r t hd).2 hdi
          · have e : i = j := by omega
            subst e; rw [hjl] at hl; cases hl
        · rw [if_neg hd]
          exact (hT.some t i h fun k hk => hmax k ((hWr' t k).2 (.inl hk))).mono (cutsub _)
      · rw [if_pos h]; exact hv
    · rw [fP rfl kd]
      have hd : o.dst ≠ some t := fun hd => hno j ((hWr' t j).2 (.inr ⟨rfl, hd⟩))
      rw [if_neg hd]
      exact (hT.none t fun i hi => hno i ((hWr' t i).2 (.inl hi))).mono (cutsub _)
   have tm' : ∀ v', (a.put o.dst v').tmps.size = (st 0).m := fun v' => by
    rw [← hD.tmps]; cases o.dst <;> simp [Act.put]
   have dv' : ∀ v', (a.put o.dst v').defers = a0.defers := fun v' => by rw [eS]; exact hD.defers
   have hrR := hQ.rel R d1 (Nat.le_refl _)
   have hιR : ∀ b e, ι b = some e → b < (st R).h.n := fun b e hb => hQ.lt hquiet d1 hb
   have hιb : ∀ b e, ι b = some e → e.block < w.heap.size := fun b e hb => hrR.gG b e (cd (hιR b e hb) hb)
   have hbase := Nat.le_trans hs.base hD.qT
   have hunl : ∀ i, i ≠ j → aJ.getD i false = false → (aJ.setIfInBounds j true).getD i false = false := fun i hi hl => by
    cases hx : (aJ.setIfInBounds j true).getD i false with
    | false => rfl
    | true => rcases (hset i).1 hx with h | h
              · rw [hl] at h; cases h
              · exact absurd h hi
   have same : ∀ w1 v', ¬ Np ops st late j → Calm w w1 → aP (ι.cut (st (j + 1)).h.n) (vv j) v' → K (a.put o.dst v') w1 := by
    intro w1 v' hn hc hv
    refine hK _ _ ⟨hsize', hclosed', tm' v', dv' v', Nat.le_trans hD.qT hc.size, m, R, ιm, wm, ι, d1, d2, fun i h1 h2 => (hset i).2 (.inl (d3 i h1 h2)), fun i h1 h2 => ?_, d5, d6,
     (hQ.calm hc).congr fun q _ _ => ?_, d7, d8, d9, temps' ι v' (fun _ _ h => h) hv⟩
    · exact hunl i (fun e => hn (e ▸ h2)) (d4 i h1 h2)
    · constructor
      · rintro ⟨h1, h2⟩; exact ⟨h1, (hset q).2 (.inl h2)⟩
      · rintro ⟨h1, h2⟩
        refine ⟨h1, ?_⟩
        rcases (hset q).1 h2 with h | h
        · exact h
        · exact absurd (h ▸ h1) hn
   unfold wpOpIn
   simp only [ho]
   rw [hwant]
   obtain ⟨o', ho', hk⟩ := step j hjn
   obtain rfl := Option.some.inj (ho.symm.trans ho')
   rcases hk with ⟨e1, e2, e3⟩ | ⟨e1, h', e2, ⟨hlt, hlz, s1, s2, s3, s4⟩ | ⟨hlt, e3, hp, hpl, hsem⟩⟩
   · rw [e1]
     simp only [Bool.false_eq_true, if_false]
     refine ⟨fun _ _ => trivial, ?_⟩
     refine same w undef (fun ⟨o2, q1, q2, _⟩ => ?_) ⟨rfl, rfl, rfl, Nat.le_refl _, fun _ _ => rfl, fun _ _ _ h => h, fun _ _ _ _ => rfl⟩ (by rw [e2]; exact aP.undef)
     obtain rfl := Option.some.inj (ho.symm.trans q1)
     rw [e1] at q2; cases q2
   · rw [e1, if_pos rfl]
     have hh' : (st (j + 1)).h = h' := by rw [e2, bk]
     cases hp : cm o.op with
     | true =>
      have hnn : ¬ Np ops st late j := fun ⟨o2, q1, _, q3, _⟩ => by
       obtain rfl := Option.some.inj (ho.symm.trans q1)
       rw [hp] at q3; cases q3
      refine (s4 hp).2 (qY (st j).h.n) r base (ι.cut (st j).h.n) a w K Q (wj (fun b e hb => (bD hb).1) fun b e hb => hιb b e (bD hb).2) hbase db.none (fun x hx => by rw [kG]; exact operands x hx)
       fun ι' v' w1 m1 m2 m3 m4 => same w1 v' hnn (dE.calm m4) (m2.mono fun b e hb => ?_)
      have hlt := m3.lt b e hb
      have h2 := m1.old b hlt
      rw [hb] at h2
      have h3 := (notNp j hjn hnn)
      rw [h3]
      exact h2.symm
     | false =>
      have hn : Np ops st late j := ⟨o, ho, e1, hp, hlt⟩
      have hmj : m ≤ j := by
       rcases Nat.lt_or_ge j m with q | q
       · have := d3 j q hn; rw [hjl] at this; cases this
       · exact q
      rcases Nat.lt_or_ge j R with hjR | hjR
      ·
        refine (s2 (d5 j hmj hjR hn)).2 r base (ι.cut (st j).h.n) a w K Q (hQ.rel j hmj (by omega)) hbase db.none operands fun κ v' w1 m1 m2 m3 m4 => ?_
        rw [← hh'] at m1 m3 m4
        have hE : ¬ (Np ops st late j ∧ aJ.getD j false = true) := fun h => by rw [hjl] at h; cases h.2
        have hQ' := iu.step hQ hquiet (fun i h1 h2 => stepWF i (by omega)) hmj hjR hE m1 m3 m4
        refine hK _ _ ⟨hsize', hclosed', tm' v', dv' v', Nat.le_trans hD.qT m4.size, m, R, ιm, wm, _, d1, d2, fun i h1 h2 => (hset i).2 (.inl (d3 i h1 h2)), fun i h1 h2 => hunl i (by omega) (d4 i h1 h2), d5, d6,
         hQ'.congr fun q _ _ => ?_, d7, d8, d9, temps' _ v' (fun b e hb => vt hQ hquiet hmj hjR hE κ hb) (m2.mono fun b e hb => cd (m3.lt b e hb) (uU (G := fun i => (st i).h) (q := j) m1 m3 hb))⟩
        constructor
        · rintro (⟨h1, h2⟩ | rfl)
          · exact ⟨h1, (hset q).2 (.inl h2)⟩
          · exact ⟨hn, (hset q).2 (.inr rfl)⟩
        · rintro ⟨h1, h2⟩
          rcases (hset q).1 h2 with h | h
          · exact .inl ⟨h1, h⟩
          · exact .inr h
      ·
        have hRn : R < ops.size := by omega
        obtain ⟨nR, mR⟩ := d6 hRn
        have hjR' : j = R := by
         rcases Nat.lt_or_ge R j with q | q
         · exfalso
           have nR' := nR
           obtain ⟨oR, r1, r2, r3, r4⟩ := nR
           have hRl := d4 R (Nat.le_refl _) ⟨oR, r1, r2, r3, r4⟩
           rcases pair R j oR o q r1 ho with r | ⟨_, _, r⟩
           · rw [before R r] at hRl; cases hRl
           · rcases r r3 hp with r | r | r
             · have := r.1; rw [mR] at this; cases this
             · rw [npLz R nR'] at r; cases r
             · rw [npLz j hn] at r; cases r.1
         · omega
        subst hjR'
        have hall : ∀ q, m ≤ q → q < j → Np ops st late q → aJ.getD q false = true := by
         intro q h1 h2 nq
         obtain ⟨oq, r1, r2, r3, r4⟩ := nq
         rcases pair q j oq o h2 r1 ho with r | ⟨_, _, r⟩
         · exact before q r
         · rcases r r3 hp with r | r | r
           · have := r.2; rw [mR] at this; cases this
           · rw [npLz q ⟨oq, r1, r2, r3, r4⟩] at r; cases r
           · rw [npLz j hn] at r; cases r.1
        obtain ⟨hrj, hmj2⟩ := hQ.done hquiet d1 fun q h1 h2 => by
         by_cases hnq : Np ops st late q
         · exact .inl ⟨hnq, hall q h1 h2 hnq⟩
         · exact .inr (notNp q (by omega) hnq)
        have hs0 : bn base ι0 (st 0).h w0 := by rw [hst0]; exact hs.heap
        have M1 := bw.trans hs0 d7 d8 hmj2 d9.size
        have K1 := bg.trans hs0 d7 d8 hmj2 d9 hQ.aq
        refine s1 r base ι a w K Q hrj hbase db.none (fun x hx => (operands x hx).mono fun b e hb => (bD hb).2) fun κ v' w1 m1 m2 m3 m4 => ?_
        rw [← hh'] at m1 m3 m4
        obtain ⟨R', l1, l2, l3, l4⟩ := loudAt (j + 1) (by omega)
        have hQ' : iu base (fun i => (st i).h) (j + 1) R' (fun _ => False) κ w1 κ w1 := iu.start m3 (fun i h1 h2 => quietOf i (by omega) (l3 i h1 h2)) l1 fun i h1 h2 => stepWF i (by omega)
        refine hK _ _ ⟨hsize', hclosed', tm' v', dv' v', Nat.le_trans hD.qT m4.size, j + 1, R', κ, w1, κ, l1, l2, fun i h1 h2 => ?_, fun i h1 h2 => hunl i (by omega) (d4 i (by omega) h2), l3, l4,
         hQ'.congr fun q h1 h2 => ?_, m3, bw.trans hs0 hrj M1 m1 K1.size, bg.trans hs0 hrj M1 m1 K1 m4, temps' κ v' (bw.lay hrj m1) (m2.mono fun b e hb => cd (m3.lt b e hb) hb)⟩
        · rw [hset]
          rcases Nat.lt_or_ge i m with q | q
          · exact .inl (d3 i q h2)
          · rcases Nat.lt_or_ge i j with r | r
            · exact .inl (hall i q r h2)
            · exact .inr (by omega)
        · constructor
          · exact fun h => h.elim
          · rintro ⟨h3, h4⟩
            rw [hunl q (by omega) (d4 q (by omega) h3)] at h4
            cases h4
   ·
     rw [e1, if_pos rfl]
     have hnn : ¬ Np ops st late j := fun ⟨o2, _, _, _, q4⟩ => by rw [hlt] at q4; cases q4
     have hearly : R < j → ∀ p', p' ≤ ops.size → dh ((st p').h.o (bb j)) ((st j).h.o (bb j)) := fun q => by
      have hRn : R < ops.size := by omega
      obtain ⟨nR, mR⟩ := d6 hRn
      have nR' := nR
      obtain ⟨oR, r1, r2, r3, r4⟩ := nR
      have hRl := d4 R (Nat.le_refl _) ⟨oR, r1, r2, r3, r4⟩
      rcases pair R j oR o q r1 ho with r | ⟨_, _, r⟩
      · rw [before R r] at hRl; cases hRl
      · rcases r r3 hp with r | r | r
        · have := r.1; rw [mR] at this; cases this
        · rw [npLz R nR'] at r; cases r
        · have hz := hear j j (by rw [List.getElem?_range hjn]) hlt r.2
          exact fun p' hp' => (hfix _ hz p' hp').trans (hfix _ hz j (by omega)).symm
     rcases Nat.lt_or_ge R j with hRj | hjR
     ·
       have hst := hearly hRj R d2
       have hrj := hQ.rel R d1 (Nat.le_refl _)
       refine hsem (st R).h hst r base (ι.cut (st R).h.n) a w K Q hrj hbase db.none (fun x hx => ?_) fun ι' v' w1 m1 m2 m3 m4 => same w1 v' hnn (dE.calm m4) ?_
       · rw [kG]
         exact (operands x hx).mono fun b e hb => cd (hιR b e (bD hb).2) (bD hb).2
       · refine m2.mono fun b e hb => ?_
         have hlt2 := m3.lt b e hb
         have h2 := m1.old b hlt2
         rw [hb] at h2
         have h4 := bD h2.symm
         exact cd (Nat.lt_of_lt_of_le h4.1 (stepN R (j + 1) (by omega) (by omega))) h4.2
     · have hmj : m ≤ max m j := Nat.le_max_left _ _
       have hjm : j ≤ max m j := Nat.le_max_right _ _
       have hmR : max m j ≤ R := by omega
       have hst := hlate j hjn hlt (max m j) hjm (by omega)
       have hrj := hQ.rel (max m j) hmj hmR
       refine hsem (st (max m j)).h hst r base (ι.cut (st (max m j)).h.n) a w K Q hrj hbase db.none (fun x hx => ?_) fun ι' v' w1 m1 m2 m3 m4 => same w1 v' hnn (dE.calm m4) ?_
       · rw [kG]
         exact (operands x hx).mono fun b e hb => cd (Nat.lt_of_lt_of_le (bD hb).1 (stepN j (max m j) hjm (by omega))) (bD hb).2
       · refine (hpl ι' v' m2).mono fun b e hb => ?_
         split at hb
         · rename_i hbn
           have h2 := m1.old b (Nat.lt_of_lt_of_le hbn (stepN j (max m j) hjm (by omega)))
           rw [hb] at h2
           exact cd (Nat.lt_of_lt_of_le hbn (stepN j (j + 1) (by omega) (by omega))) (bD h2.symm).2
         · cases hb
  induction fuel with
  | zero =>
   intro aJ a w hl hD
   have hall : ∀ i, i < ops.size → aJ.getD i true = true := uI (by omega)
   refine ⟨?_, fin aJ a w (fun i hi => by rw [← mJ (by rw [hD.size]; exact hi)]; exact hall i hi) hD⟩
   cases hr : Region.ready .any ops aJ with
   | nil => rfl
   | cons j l =>
    obtain ⟨hjun, o, ho, _⟩ := mem_ready.1 (show j ∈ Region.ready .any ops aJ by rw [hr]; simp)
    rw [hall j (Array.getElem?_eq_some_iff.1 ho).1] at hjun
    cases hjun
  | succ fuel ih =>
   intro aJ a w hl hD
   refine ⟨fun hr => ?_, fun j hj => ?_⟩
   ·
     refine fin aJ a w (fun i hi => ?_) hD
     induction i using Nat.strongRecOn with
     | _ i ihi =>
      cases hx : aJ.getD i false with
      | true => rfl
      | false =>
       exfalso
       have hir : i ∈ Region.ready .any ops aJ := mem_ready.2 ⟨by rw [mJ (by rw [hD.size]; exact hi)]; exact hx, ops[i], Array.getElem?_eq_getElem hi, fun e he hb => by
        have hlt := back i _ e (Array.getElem?_eq_getElem hi) he hb
        exact ihi e.on hlt (by omega)⟩
       rw [hr] at hir
       cases hir
   · have hjl := (mem_ready.1 hj).1
     obtain ⟨o, ho, _⟩ := (mem_ready.1 hj).2
     have hjn := (Array.getElem?_eq_some_iff.1 ho).1
     exact one aJ a w j hD hj _ fun a' w' hD' => ih _ a' w' (by have := vH hjn hD.size hjl; omega) hD'
 have hf : ∀ i, (Array.replicate ops.size false).getD i false = false := fun i => by
  rw [Array.getD_eq_getD_getElem?, Array.getElem?_replicate]
  split <;> rfl
 refine wpIn_region_any hm (walk ops.size _ a0 _ ?_ ?_)
 · unfold left
   exact Nat.le_trans (List.length_filter_le _ _) (by simp)
 · obtain ⟨R, l1, l2, l3, l4⟩ := loudAt 0 (by omega)
   have hs0 : bn base ι0 (st 0).h w0 := by rw [hst0]; exact hs.heap
   have hcalm := Calm.drawn w0 (w0.drawn + 1)
   have hQ0 : iu base (fun i => (st i).h) 0 R (fun _ => False) ι0 { w0 with drawn := w0.drawn + 1 } ι0 { w0 with drawn := w0.drawn + 1 } :=
    iu.start (hs0.calm hcalm) (fun i h1 h2 => quietOf i (by omega) (l3 i h1 h2)) l1 fun i h1 h2 => stepWF i (by omega)
   refine ⟨by simp, fun j o e ho hl => (by rw [hf] at hl; cases hl), by rw [hst0]; exact hs.size, rfl, Nat.le_refl _, 0, R, ι0, _, ι0, l1, l2, fun i h => by omega, fun i _ _ => hf i, l3, l4,
    hQ0.congr fun q _ _ => ⟨fun h => h.elim, fun h => by rw [hf] at h; cases h.2⟩, hs0.calm hcalm, bw.refl hs0, bg.calm (eL.zero (dE.refl ι0 _ w0)) hcalm, ⟨fun t i hi => (by
     have := hi.1; rw [hf] at this; cases this), fun t _ => ?_⟩⟩
   have h1 := hs.tmps t
   rw [← hst0] at h1
   exact h1.mono fun b e hb => cd (hs0.lt b e hb) hb
end Go.Proofs.YthekokdpplobhaaGreat.Eng
set_option linter.unusedVariables false
set_option linter.unusedSimpArgs false
namespace Go.Proofs.YthekokdpplobhaaGreat.Eng
variable {P : Program}
def iS : Op → Bool
 | .store .. => true
 | _ => false
def fN : Op → Bool
 | .load .. => true
 | _ => false
def free (ops : Array Oper) (i j : Nat) : Bool := !(((yC ops.toList []).getD j 0).testBit i)
def lp (ops : Array Oper) (i : Nat) : Bool := match ops[i]? with
 | none => false
 | some a => fN a.op && (List.range ops.size).any fun j => Nat.blt i j && match ops[j]? with
   | none => false
   | some b => iS b.op && free ops i j
def o5 (ops : Array Oper) (i : Nat) : Bool := match ops[i]? with
 | none => false
 | some a => !cm a.op && (List.range ops.size).any fun j => !(Nat.beq j i) && match ops[j]? with
   | none => false
   | some b => !cm b.op && free ops i j && free ops j i && !(lp ops (min i j))
structure Mk where
 q : Nat → Bool
 lz : Nat → Bool
 Z : List (Nat × Bool)
 d : Bool
def Mk.yu (mq : Mk) (ρ : dV) : dV := bif mq.d then .none else ρ
def kH (ops : Array Oper) (q lz : Nat → Bool) : Bool := (List.range ops.size).all fun i => match ops[i]? with
 | some o => (!(q i) || !iS o.op) && (!(lz i) || fN o.op)
 | none => true
def codeOk (m : Nat) : Code → Bool
 | .region _ ops false => fG ops m
 | .region _ ops true => fG ops m && oo ops (o5 ops) (lp ops) && kH ops (o5 ops) (lp ops)
 | .seq a b => codeOk m a && codeOk m b
 | .cond c a b => dZ c && codeOk m a && codeOk m b
 | .block _ c => codeOk m c
 | .loop c => codeOk m c
 | .scope c => codeOk m c
 | .rangeFunc g ps a b => dZ g && ps.toList.all (fun t => Nat.blt t m) && codeOk m a && codeOk m b
 | .skip | .ret | .exit _ | .label _ => true
 | _ => false
def vc (ops : Array Oper) (mq lz : Nat → Bool) : Prop := oo ops mq lz = true
theorem sA (hm : P.follows .mixedOrders = true) {f : FuncId} {args : Array Value} {h h' : ai} {v : Value} (hb : ee P vc .none (.call f args h v h')) : iA P .none f args h v h' :=
 sound (fun _ _ _ h => nm hm h) hb
structure gl where
 sz : Nat
 ro : Bool
 c : List Value
abbrev da := List (Nat × Value)
abbrev an := List (Nat × gl)
def jQ : da → Nat → Option Value
 | [], _ => none
 | (d, v) :: L, i => bif Nat.beq d i then some v else jQ L i
def Has (t : Nat → Value) (L : da) : Prop := ∀ d v, jQ L d = some v → t d = v
def Is (h : ai) (b : Nat) (x : gl) : Prop := ∃ f k, h.o b = .cells x.sz x.ro f none k x.c
structure Sat (h : ai) (O : an) : Prop where
 nd : (O.map (·.1)).Nodup
 is : ∀ p ∈ O, Is h p.1 p.2
 wf : WF h
structure Cx where
 m : Nat
 q : Bool
 h0 : ai
 ρ : dV
structure St (x : Cx) (L : da) (O : an) (s : bN) : Prop where
 m : s.m = x.m
 t : Has s.t L
 sat : Sat s.h O
 old : x.q = true → Old x.h0 s.h
theorem Has.nil {t : Nat → Value} : Has t [] := fun _ _ h => by cases h
theorem Has.cons {t : Nat → Value} {L : da} {d : Nat} {v : Value} (h1 : t d = v) (h : Has t L) : Has t ((d, v) :: L) := by
 intro e u he
 unfold jQ at he
 cases hb : Nat.beq d e with
 | true =>
  rw [hb] at he
  have := Nat.eq_of_beq_eq_true hb
  subst this
  exact h1.trans (Option.some.inj he)
 | false => rw [hb] at he; exact h e u he
theorem Has.put {s : bN} {L : da} (h : Has s.t L) (d : Nat) (v : Value) (g : ai) : Has (s.put (some d) v g).t ((d, v) :: L) := by
 intro e u he
 unfold jQ at he
 show (if e = d then v else s.t e) = u
 cases hb : Nat.beq d e with
 | true =>
  rw [hb] at he
  rw [if_pos (Nat.eq_of_beq_eq_true hb).symm]
  exact Option.some.inj he
 | false =>
  rw [hb] at he
  rw [if_neg fun e' => by subst e'; simp at hb]
  exact h e u he
def dc (L : da) : Operand → Option Value
 | .tmp t => jQ L t
 | .const v => some v
 | .func f => some (.func (.func f) #[] #[])
 | .global _ => none
theorem Has.ev {s : bN} {L : da} (h : Has s.t L) {y : Operand} {v : Value} (hy : dc L y = some v) : s.ev y = v := by
 cases y with
 | tmp t => exact h t v hy
 | const c => exact Option.some.inj hy
 | func f => exact Option.some.inj hy
 | global g => cases hy
theorem Sat.lt {h : ai} {O : an} (hs : Sat h O) {p : Nat × gl} (hp : p ∈ O) : p.1 < h.n := by
 obtain ⟨f, k, e⟩ := hs.is p hp
 exact hs.wf.lt e
theorem Sat.at {h : ai} {O : an} (hs : Sat h O) {j b : Nat} {x : gl} (hj : O[j]? = some (b, x)) : Is h b x := hs.is (b, x) (List.mem_of_getElem? hj)
theorem Sat.mem {h : ai} {O : an} (hs : Sat h O) {b : Nat} {x : gl} (hj : (b, x) ∈ O) : Is h b x := hs.is (b, x) hj
theorem Is.rd {h : ai} {b : Nat} {x : gl} (hi : Is h b x) : h.rd b = some x.c := by
 obtain ⟨f, k, e⟩ := hi
 unfold ai.rd
 rw [e]
theorem eX {O : an} (hn : (O.map (·.1)).Nodup) {i j : Nat} {p q : Nat × gl} (hi : O[i]? = some p) (hj : O[j]? = some q) (he : p.1 = q.1) : i = j := by
 have h1 := List.pairwise_iff_getElem.1 hn
 obtain ⟨li, ei⟩ := List.getElem?_eq_some_iff.1 hi
 obtain ⟨lj, ej⟩ := List.getElem?_eq_some_iff.1 hj
 rcases Nat.lt_trichotomy i j with q1 | q1 | q1
 · have := h1 i j (by simpa using li) (by simpa using lj) q1
   simp [ei, ej, he] at this
 · exact q1
 · have := h1 j i (by simpa using lj) (by simpa using li) q1
   simp [ei, ej, he] at this
def pick (O : an) : List Nat → an
 | [] => []
 | i :: is => match O[i]? with
   | some p => p :: pick O is
   | none => pick O is
theorem km {O : an} {p : Nat × gl} : ∀ {is : List Nat}, p ∈ pick O is → ∃ i ∈ is, O[i]? = some p
 | i :: is, h => by
  unfold pick at h
  split at h
  · rename_i q hq
    rcases List.mem_cons.1 h with h | h
    · exact ⟨i, by simp, by rw [h]; exact hq⟩
    · obtain ⟨j, h1, h2⟩ := km h
      exact ⟨j, by simp [h1], h2⟩
  · obtain ⟨j, h1, h2⟩ := km h
    exact ⟨j, by simp [h1], h2⟩
theorem Sat.pick {h : ai} {O : an} (hs : Sat h O) (is : List Nat) (n : Nat) (hnd : is.Nodup) (hlt : ∀ i ∈ is, i < n) : Sat h (pick O is ++ O.drop n) := by
 have hmem : ∀ {p : Nat × gl}, p ∈ Eng.pick O is ++ O.drop n → p ∈ O := by
  intro p hp
  rcases List.mem_append.1 hp with hp | hp
  · obtain ⟨i, _, h2⟩ := km hp
    exact List.mem_of_getElem? h2
  · exact List.mem_of_mem_drop hp
 refine ⟨?_, fun p hp => hs.is p (hmem hp), hs.wf⟩
 rw [List.map_append, List.nodup_append]
 refine ⟨?_, ?_, ?_⟩
 · clear hlt hmem
   induction is with
   | nil => simp [Eng.pick]
   | cons i is ih =>
    obtain ⟨h1, h2⟩ := List.nodup_cons.1 hnd
    unfold Eng.pick
    split
    · rename_i q hq
      rw [List.map_cons, List.nodup_cons]
      refine ⟨fun hm => ?_, ih h2⟩
      obtain ⟨p, hp, he⟩ := List.mem_map.1 hm
      obtain ⟨j, hj, hj2⟩ := km hp
      have := eX hs.nd hq hj2 he.symm
      subst this
      exact h1 hj
    · exact ih h2
 · rw [List.map_drop]
   exact List.Sublist.nodup (List.drop_sublist _ _) hs.nd
 · intro a ha b hb he
   subst he
   obtain ⟨p, hp, e1⟩ := List.mem_map.1 ha
   obtain ⟨q, hq, e2⟩ := List.mem_map.1 hb
   obtain ⟨i, hi, hi2⟩ := km hp
   obtain ⟨k, hk⟩ := List.getElem?_of_mem hq
   rw [List.getElem?_drop] at hk
   have := eX hs.nd hi2 hk (by rw [e1, e2])
   have := hlt i hi
   omega
theorem Sat.perm {h : ai} {O O' : an} (hs : Sat h O) (hp : O.Perm O') : Sat h O' :=
 ⟨(hp.map (·.1)).nodup_iff.1 hs.nd, fun p h => hs.is p (hp.mem_iff.2 h), hs.wf⟩
theorem Is.same {h h' : ai} {b : Nat} {x : gl} (hi : Is h b x) (he : h'.o b = h.o b) : Is h' b x := by
 obtain ⟨f, k, e⟩ := hi
 exact ⟨f, k, by rw [he]; exact e⟩
theorem Sat.new {h : ai} {O : an} (hs : Sat h O) (sz : Nat) (c : List Value) : Sat (h.new (.cells sz false h.n none 0 c)) ((h.n, ⟨sz, false, c⟩) :: O) := by
 refine ⟨?_, ?_, hs.wf.new sz false c⟩
 · rw [List.map_cons, List.nodup_cons]
   refine ⟨fun hm => ?_, hs.nd⟩
   obtain ⟨p, hp, he⟩ := List.mem_map.1 hm
   have := hs.lt hp
   omega
 · intro p hp
   rcases List.mem_cons.1 hp with rfl | hp
   · exact ⟨h.n, 0, by simp [ai.new]⟩
   · refine (hs.is p hp).same ?_
     have := hs.lt hp
     simp only [ai.new]
     rw [if_neg (by omega)]
theorem ai.p9 (h : ai) (x : ep) : Old h (h.new x) := ⟨Nat.le_succ _, fun b hb => by simp only [ai.new]; rw [if_neg (by omega)]⟩
theorem Old.refl (h : ai) : Old h h := ⟨Nat.le_refl _, fun _ _ => rfl⟩
theorem Old.trans {a b c : ai} (h1 : Old a b) (h2 : Old b c) : Old a c := ⟨Nat.le_trans h1.1 h2.1, fun x hx => (h2.2 x (Nat.lt_of_lt_of_le hx h1.1)).trans (h1.2 x hx)⟩
theorem Old.quiet {a b : ai} (h : Old a b) : Quiet a b := ⟨h.1, fun x hx => .inl (h.2 x hx)⟩
theorem Sat.set {h : ai} {O : an} (hs : Sat h O) {j b sz : Nat} {c c' : List Value} (hj : O[j]? = some (b, ⟨sz, false, c⟩)) {f k : Nat} (hb : h.o b = .cells sz false f none k c) :
  Sat (h.set b (.cells sz false f none (k + 1) c')) (O.set j (b, ⟨sz, false, c'⟩)) := by
 obtain ⟨lj, ej⟩ := List.getElem?_eq_some_iff.1 hj
 refine ⟨?_, ?_, hs.wf.set hb (k + 1) c'⟩
 · have : (O.set j (b, ⟨sz, false, c'⟩)).map (·.1) = O.map (·.1) := by
     rw [List.map_set]
     apply List.ext_getElem?
     intro i
     rw [List.getElem?_set]
     split
     · rename_i e
       subst e
       rw [List.getElem?_map, hj]
       simp [lj]
     · rfl
   rw [this]
   exact hs.nd
 · intro p hp
   obtain ⟨i, hi⟩ := List.getElem?_of_mem hp
   rw [List.getElem?_set] at hi
   split at hi
   · rename_i e
     subst e
     obtain rfl := Option.some.inj hi
     exact ⟨f, k + 1, by simp [ai.set]⟩
   · rename_i e
     refine (hs.is p (List.mem_of_getElem? hi)).same ?_
     simp only [ai.set]
     rw [if_neg]
     intro e2
     exact e (eX hs.nd hj hi e2.symm)
theorem Sat.app {h : ai} {O : an} (hs : Sat h O) {j b sz : Nat} {c : List Value} (hj : O[j]? = some (b, ⟨sz, false, c⟩)) {f k : Nat} (hb : h.o b = .cells sz false f none k c) (cn : List Value) :
  Sat ((h.set b (.cells sz false f (some h.n) k c)).new (.cells sz false f none 0 cn)) (O.set j (h.n, ⟨sz, false, cn⟩)) := by
 obtain ⟨lj, ej⟩ := List.getElem?_eq_some_iff.1 hj
 have hlt : ∀ {p : Nat × gl}, p ∈ O → p.1 < h.n := fun hp => hs.lt hp
 refine ⟨?_, ?_, hs.wf.app hb cn⟩
 · rw [List.map_set]
   refine List.pairwise_iff_getElem.2 fun i i2 hi hi2 hlt2 => ?_
   have h1 := List.pairwise_iff_getElem.1 hs.nd
   rw [List.length_set, List.length_map] at hi hi2
   rw [List.getElem_set, List.getElem_set]
   have a1 : (O.map (·.1))[i]'(by simpa using hi) < h.n := by simp only [List.getElem_map]; exact hlt (List.getElem_mem hi)
   have a2 : (O.map (·.1))[i2]'(by simpa using hi2) < h.n := by simp only [List.getElem_map]; exact hlt (List.getElem_mem hi2)
   split
   · split
     · omega
     · show h.n ≠ _; omega
   · split
     · show _ ≠ h.n; omega
     · exact h1 i i2 (by simpa using hi) (by simpa using hi2) hlt2
 · intro p hp
   obtain ⟨i, hi⟩ := List.getElem?_of_mem hp
   rw [List.getElem?_set] at hi
   split at hi
   · rename_i e
     subst e
     obtain rfl := Option.some.inj hi
     exact ⟨f, 0, by simp [ai.new, ai.set]⟩
   · rename_i e
     have hm := List.mem_of_getElem? hi
     refine (hs.is p hm).same ?_
     have := hlt hm
     show (if p.1 = h.n then _ else if p.1 = b then _ else h.o p.1) = h.o p.1
     rw [if_neg (by omega), if_neg]
     intro e2
     exact e (eX hs.nd hj hi e2.symm)
end Go.Proofs.YthekokdpplobhaaGreat.Eng
set_option linter.unusedVariables false
set_option linter.unusedSimpArgs false
namespace Go.Proofs.YthekokdpplobhaaGreat.Eng
variable {P : Program} {x : Cx} {L L' : da} {O O' : an}
def W (P : Program) (ρ : dV) (c : Code) (s : bN) (Q : Exit → bN → Prop) : Prop := codeOk s.m c = true → ∃ e s', ee P vc ρ (.code c s e s') ∧ s'.m = s.m ∧ Q e s'
def WX (P : Program) (x : Cx) (c : Code) (L : da) (O : an) (Q : Exit → bN → Prop) : Prop := ∀ s, St x L O s → W P x.ρ c s Q
def Fin (x : Cx) (L : da) (O : an) (e : Exit) (Q : Exit → bN → Prop) : Prop := ∀ s, St x L O s → Q e s
def pD (P : Program) (ρ : dV) (b : Code) (Q : Exit → bN → Prop) : Exit → bN → Prop
 | .normal, s => W P ρ b s Q
 | .ret, s => Q .ret s
 | .exit i, s => Q (.exit i) s
 | e, s => Q e s
def nZ (id : Nat) (Q : Exit → bN → Prop) : Exit → bN → Prop
 | .exit i, s => bif Nat.beq i id then Q .normal s else Q (.exit i) s
 | .normal, s => Q .normal s
 | .ret, s => Q .ret s
 | e, s => Q e s
def tq {α : Type} (x : Cx) (LI : α → da) (OI : α → an) (Iv : α → Prop) (μ : α → Nat) (a : α) (Q : Exit → bN → Prop) : Exit → bN → Prop
 | .normal, s => ∃ a', Iv a' ∧ μ a' < μ a ∧ St x (LI a') (OI a') s
 | .ret, s => Q .ret s
 | .exit i, s => Q (.exit i) s
 | e, s => Q e s
theorem Fin.aa {b : Code} {Q : Exit → bN → Prop} (h : WX P x b L O Q) : Fin x L O .normal (pD P x.ρ b Q) := h
theorem Fin.az {b : Code} {Q : Exit → bN → Prop} (h : Fin x L O .ret Q) : Fin x L O .ret (pD P x.ρ b Q) := h
theorem Fin.aF {b : Code} {Q : Exit → bN → Prop} {i : Nat} (h : Fin x L O (.exit i) Q) : Fin x L O (.exit i) (pD P x.ρ b Q) := h
theorem Fin.aK {Q : Exit → bN → Prop} {i id : Nat} (hb : Nat.beq i id = true) (h : Fin x L O .normal Q) : Fin x L O (.exit i) (nZ id Q) := by
 intro s hs
 show (bif Nat.beq i id then _ else _)
 rw [hb]
 exact h s hs
theorem Fin.fv {Q : Exit → bN → Prop} {i id : Nat} (hb : Nat.beq i id = false) (h : Fin x L O (.exit i) Q) : Fin x L O (.exit i) (nZ id Q) := by
 intro s hs
 show (bif Nat.beq i id then _ else _)
 rw [hb]
 exact h s hs
theorem Fin.ag {Q : Exit → bN → Prop} {id : Nat} (h : Fin x L O .normal Q) : Fin x L O .normal (nZ id Q) := h
theorem Fin.bq {Q : Exit → bN → Prop} {id : Nat} (h : Fin x L O .ret Q) : Fin x L O .ret (nZ id Q) := h
theorem Fin.dL {α : Type} {LI : α → da} {OI : α → an} {Iv : α → Prop} {μ : α → Nat} {a : α} {Q : Exit → bN → Prop} (h : Fin x L O .ret Q) : Fin x L O .ret (tq x LI OI Iv μ a Q) := h
theorem Fin.aN {α : Type} {LI : α → da} {OI : α → an} {Iv : α → Prop} {μ : α → Nat} {a : α} {Q : Exit → bN → Prop} {i : Nat} (h : Fin x L O (.exit i) Q) : Fin x L O (.exit i) (tq x LI OI Iv μ a Q) := h
theorem Fin.aj {α : Type} {LI : α → da} {OI : α → an} {Iv : α → Prop} {μ : α → Nat} {a : α} {Q : Exit → bN → Prop} (a' : α) (hi : Iv a') (hm : μ a' < μ a)
  (h : ∀ s, St x L O s → St x (LI a') (OI a') s) : Fin x L O .normal (tq x LI OI Iv μ a Q) := fun s hs => ⟨a', hi, hm, h s hs⟩
theorem WX.skip {Q : Exit → bN → Prop} (h : Fin x L O .normal Q) : WX P x .skip L O Q := fun s hs _ => ⟨_, _, .skip, rfl, h s hs⟩
theorem WX.exit {i : Nat} {Q : Exit → bN → Prop} (h : Fin x L O (.exit i) Q) : WX P x (.exit i) L O Q := fun s hs _ => ⟨_, _, .exit, rfl, h s hs⟩
theorem WX.ret {Q : Exit → bN → Prop} (h : Fin x L O .ret Q) : WX P x .ret L O Q := fun s hs _ => ⟨_, _, .ret, rfl, h s hs⟩
theorem WX.seq {a b : Code} {Q : Exit → bN → Prop} (h : WX P x a L O (pD P x.ρ b Q)) : WX P x (.seq a b) L O Q := by
 intro s hs hk
 simp only [codeOk, Bool.and_eq_true] at hk
 obtain ⟨e, s', h1, h2, h3⟩ := h s hs hk.1
 by_cases he : e = .normal
 · subst he
   obtain ⟨e2, s2, g1, g2, g3⟩ := (show W P x.ρ b s' Q from h3) (by rw [h2]; exact hk.2)
   exact ⟨e2, s2, .kV h1 g1, g2.trans h2, g3⟩
 · refine ⟨e, s', .kZ h1 he, h2, ?_⟩
   cases e <;> first | exact h3 | exact absurd rfl he
theorem WX.cond {c : Operand} {a b : Code} {Q : Exit → bN → Prop} {t : Bool} (hc : dc L c = some (.bool t)) (h1 : t = true → WX P x a L O Q) (h2 : t = false → WX P x b L O Q) : WX P x (.cond c a b) L O Q := by
 intro s hs hk
 simp only [codeOk, Bool.and_eq_true] at hk
 cases t with
 | true =>
  obtain ⟨e, s', g1, g2, g3⟩ := h1 rfl s hs hk.1.2
  exact ⟨e, s', .jz (hs.t.ev hc) hk.1.1 g1, g2, g3⟩
 | false =>
  obtain ⟨e, s', g1, g2, g3⟩ := h2 rfl s hs hk.2
  exact ⟨e, s', .jd (hs.t.ev hc) hk.1.1 g1, g2, g3⟩
theorem WX.block {id : Nat} {c : Code} {Q : Exit → bN → Prop} (h : WX P x c L O (nZ id Q)) : WX P x (.block id c) L O Q := by
 intro s hs hk
 obtain ⟨e, s', h1, h2, h3⟩ := h s hs hk
 by_cases he : e = .exit id
 · subst he
   refine ⟨.normal, s', .gR h1, h2, ?_⟩
   have h4 : (bif Nat.beq id id then Q .normal s' else Q (.exit id) s') := h3
   rw [Nat.beq_refl] at h4
   exact h4
 · refine ⟨e, s', .gP h1 he, h2, ?_⟩
   cases e with
   | exit i =>
    have h4 : (bif Nat.beq i id then Q .normal s' else Q (.exit i) s') := h3
    cases hb : Nat.beq i id with
    | true => exact absurd (by rw [Nat.eq_of_beq_eq_true hb]) he
    | false => rw [hb] at h4; exact h4
   | _ => exact h3
theorem WX.loop {α : Type} (LI : α → da) (OI : α → an) (Iv : α → Prop) (μ : α → Nat) (a : α) {c : Code} {Q : Exit → bN → Prop} (hi : Iv a) (hs0 : ∀ s, St x L O s → St x (LI a) (OI a) s)
  (h : ∀ a, Iv a → WX P x c (LI a) (OI a) (tq x LI OI Iv μ a Q)) : WX P x (.loop c) L O Q := by
 have key : ∀ n a, μ a < n → Iv a → ∀ s, St x (LI a) (OI a) s → W P x.ρ (.loop c) s Q := by
  intro n
  induction n with
  | zero => intro a ha; omega
  | succ n ih =>
   intro a ha hi s hs hk
   obtain ⟨e, s', h1, h2, h3⟩ := h a hi s hs hk
   by_cases he : e = .normal
   · subst he
     obtain ⟨a', i1, i2, i3⟩ := h3
     obtain ⟨e2, s2, g1, g2, g3⟩ := ih a' (by omega) i1 s' i3 (by rw [h2]; exact hk)
     exact ⟨e2, s2, .jk h1 g1, g2.trans h2, g3⟩
   · refine ⟨e, s', .jn h1 he, h2, ?_⟩
     cases e <;> first | exact h3 | exact absurd rfl he
 exact fun s hs => key (μ a + 1) a (Nat.lt_succ_self _) hi s (hs0 s hs)
theorem WX.of {c : Code} {Q : Exit → bN → Prop} (h0 : ∀ s, St x L O s → St x L' O' s) (h : WX P x c L' O' Q) : WX P x c L O Q := fun s hs => h s (h0 s hs)
def Dr (ops : Array Oper) (i : Nat) (l : List Oper) : Prop := ∃ tl, ops.toList.drop i = l ++ tl
def ae (P : Program) (x : Cx) (ops : Array Oper) (mq : Mk) (i : Nat) (l : List Oper) (L : da) (O : an) (K : bN → Prop) : Prop :=
 Dr ops i l → kH ops mq.q mq.lz = true → ∀ s, St x L O s → (∀ z ∈ mq.Z, z.1 < s.h.n) → ∃ s', ee P vc (mq.yu x.ρ) (.ops ops mq.q mq.lz mq.Z (List.range' i l.length) s s') ∧ s'.m = s.m ∧ K s'
def mK : Mk := ⟨fun _ => false, fun _ => false, [], false⟩
def yG (ops : Array Oper) : Mk := ⟨o5 ops, lp ops, [], true⟩
theorem og (ops : Array Oper) : kH ops (fun _ => false) (fun _ => false) = true := by
 unfold kH
 rw [List.all_eq_true]
 intro i _
 cases ops[i]? <;> rfl
theorem jc {ops : Array Oper} {q lz : Nat → Bool} (h : kH ops q lz = true) {i : Nat} {o : Oper} (ho : ops[i]? = some o) : (q i = true → iS o.op = false) ∧ (lz i = true → fN o.op = true) := by
 unfold kH at h
 have := List.all_eq_true.1 h i (List.mem_range.2 (Array.getElem?_eq_some_iff.1 ho).1)
 rw [ho] at this
 simp only [Bool.and_eq_true, Bool.or_eq_true, Bool.not_eq_true'] at this
 exact ⟨fun hq => by rcases this.1 with h1 | h1; · rw [hq] at h1; cases h1
                     · exact h1, fun hq => by rcases this.2 with h1 | h1; · rw [hq] at h1; cases h1
                                              · exact h1⟩
theorem WX.region {id : Nat} {ops : Array Oper} {l : List Oper} {Q : Exit → bN → Prop} (hl : ops.toList = l) (h : ae P x ops mK 0 l L O (Q .normal)) : WX P x (.region id ops false) L O Q := by
 intro s hs hk
 obtain ⟨s', h1, h2, h3⟩ := h ⟨[], by simpa using hl⟩ (og ops) s hs (fun z hz => by simp [mK] at hz)
 refine ⟨_, s', .region hk ?_, h2, h3⟩
 rw [List.range_eq_range', show ops.size = l.length from by rw [← hl]; simp]
 exact h1
theorem WX.draw {id : Nat} {ops : Array Oper} {l : List Oper} {Q : Exit → bN → Prop} (hl : ops.toList = l) (h : ae P x ops (yG ops) 0 l L O (Q .normal)) : WX P x (.region id ops true) L O Q := by
 intro s hs hk
 simp only [codeOk, Bool.and_eq_true] at hk
 obtain ⟨s', h1, h2, h3⟩ := h ⟨[], by simpa using hl⟩ hk.2 s hs (fun z hz => by simp [yG] at hz)
 refine ⟨_, s', .draw (Z := []) hk.1.1 hk.1.2 ?_, h2, h3⟩
 rw [List.range_eq_range', show ops.size = l.length from by rw [← hl]; simp]
 exact h1
theorem ae.nil {ops : Array Oper} {mq : Mk} {i : Nat} {e : Exit} {Q : Exit → bN → Prop} (h : Fin x L O e Q) : ae P x ops mq i [] L O (Q e) :=
 fun _ _ s hs _ => ⟨s, .nil, rfl, h s hs⟩
theorem fZ {ops : Array Oper} {i : Nat} {o : Oper} {l : List Oper} (h : Dr ops i (o :: l)) : ops[i]? = some o ∧ Dr ops (i + 1) l := by
 obtain ⟨tl, h⟩ := h
 have hlt : i < ops.toList.length := by
  rcases Nat.lt_or_ge i ops.toList.length with q | q
  · exact q
  · rw [List.drop_eq_nil_of_le q] at h; cases h
 rw [List.drop_eq_getElem_cons hlt] at h
 injection h with h1 h2
 refine ⟨?_, tl, h2⟩
 rw [← Array.getElem?_toList, List.getElem?_eq_getElem hlt, h1]
theorem ae.yW {ops : Array Oper} {mq : Mk} {i j d : Nat} {b want : Bool} {dst : Tmp} {op : Op} {t : TypeId} {p : String} {af : Array Edge} {l : List Oper} {K : bN → Prop} (hj : (ops[j]?).bind (·.dst) = some d) (hd : jQ L d = some (.bool b))
  (hb : (b == want) = false) (h : ae P x ops mq (i + 1) l ((dst, undef) :: L) O K) : ae P x ops mq i ({ dst := some dst, op := op, type := t, pos := p, after := af, guard := some (j, want) } :: l) L O K := by
 intro hdr hq s hs hz
 obtain ⟨ho, hd'⟩ := fZ hdr
 obtain ⟨s', g1, g2, g3⟩ := h hd' hq (s.put (some dst) undef s.h) ⟨hs.m, hs.t.put _ _ _, hs.sat, hs.old⟩ hz
 refine ⟨s', .iH ho ?_ g1, by rw [g2, dR], g3⟩
 unfold cv Region.wanted
 simp only [hj, hs.t d _ hd]
 simpa using hb
theorem mZ {ops : Array Oper} {o : Oper} {s : bN} (h : o.guard = none) : cv ops o s = true := by
 unfold cv Region.wanted
 rw [h]
theorem rk {ops : Array Oper} {o : Oper} {s : bN} {j d : Nat} {b want : Bool} (h : o.guard = some (j, want)) (hj : (ops[j]?).bind (·.dst) = some d) (hd : s.t d = .bool b) (hb : (b == want) = true) : cv ops o s = true := by
 unfold cv Region.wanted
 rw [h]
 simp only [hj, hd]
 simpa using hb
def Met (x : Cx) (L : da) (ops : Array Oper) (gd : Option (Nat × Bool)) : Prop := ∀ s : bN, Has s.t L → ∀ o : Oper, o.guard = gd → cv ops o s = true
theorem Met.none {ops : Array Oper} : Met x L ops none := fun s _ o h => mZ h
theorem Met.some {ops : Array Oper} {j e : Nat} {b want : Bool} (hj : (ops[j]?).bind (·.dst) = some e) (he : jQ L e = some (.bool b)) (hb : (b == want) = true) : Met x L ops (some (j, want)) := fun s hs o h => rk h hj (hs e _ he) hb
def Spec (P : Program) (q : Bool) (f : FuncId) (args : Array Value) (O : an) (Post : Value → an → Prop) : Prop :=
 ∀ h, Sat h O → ∃ v h' O', ee P vc .none (.call f args h v h') ∧ Post v O' ∧ Sat h' O' ∧ (q = true → Old h h')
def fW (P : Program) (ρ : dV) (q : Bool) (f : FuncId) (args : Array Value) (O : an) (Post : Value → an → Prop) : Prop :=
 ∀ h, Sat h O → ∃ v h' O', ee P vc ρ (.call f args h v h') ∧ Post v O' ∧ Sat h' O' ∧ (q = true → Old h h')
def dV.le (ρ ρ' : dV) : Prop := (∀ b c, ρ.c b = some c → ρ'.c b = some c) ∧ ρ'.r = ρ.r ∧ ρ'.nf = ρ.nf
theorem dV.le.add {ρ ρ' : dV} (h : ρ.le ρ') (b : Nat) (x : qM) : (ρ.add b x).le (ρ'.add b x) := ⟨fun i c hi => by
 unfold dV.add at hi ⊢
 simp only at hi ⊢
 by_cases e : i = b
 · rw [if_pos e] at hi ⊢; exact hi
 · rw [if_neg e] at hi ⊢; exact h.1 i c hi, rfl, rfl⟩
theorem dV.le.del {ρ ρ' : dV} (h : ρ.le ρ') (b : Nat) : (ρ.del b).le (ρ'.del b) := ⟨fun i c hi => by
 unfold dV.del at hi ⊢
 simp only at hi ⊢
 by_cases e : i = b
 · rw [if_pos e] at hi; cases hi
 · rw [if_neg e] at hi ⊢; exact h.1 i c hi, rfl, rfl⟩
theorem dV.le.out {ρ ρ' : dV} (h : ∀ b c, ρ.c b = some c → ρ'.c b = some c) : ρ.out.le ρ'.out := ⟨h, rfl, rfl⟩
theorem uN {dr : Array Oper → (Nat → Bool) → (Nat → Bool) → Prop} {ρ : dV} {j : J} (hb : ee P dr ρ j) : ∀ {ρ' : dV}, ρ.le ρ' → ee P dr ρ' j := by
 induction hb with
 | skip => exact fun _ => .skip
 | label => exact fun _ => .label
 | exit => exact fun _ => .exit
 | ret => exact fun _ => .ret
 | region h1 _ ih => exact fun h => .region h1 (ih h)
 | draw h1 h2 h3 _ => exact fun _ => .draw h1 h2 h3
 | kV _ _ ih1 ih2 => exact fun h => .kV (ih1 h) (ih2 h)
 | kZ _ h1 ih => exact fun h => .kZ (ih h) h1
 | jz h1 h2 _ ih => exact fun h => .jz h1 h2 (ih h)
 | jd h1 h2 _ ih => exact fun h => .jd h1 h2 (ih h)
 | gP _ h1 ih => exact fun h => .gP (ih h) h1
 | gR _ ih => exact fun h => .gR (ih h)
 | jk _ _ ih1 ih2 => exact fun h => .jk (ih1 h) (ih2 h)
 | jn _ h1 ih => exact fun h => .jn (ih h) h1
 | scope _ ih => exact fun h => .scope (ih h)
 | nil => exact fun _ => .nil
 | op h1 h2 h3 h4 h5 h6 _ ih => exact fun h => .op h1 h2 h3 h4 h5 h6 (ih h)
 | jm h1 h2 h3 h4 h5 h6 h7 _ ih => exact fun h => .jm h1 h2 h3 h4 h5 h6 h7 (ih h)
 | l8 h1 h2 h3 h4 h5 h6 _ ih => exact fun h => .l8 h1 h2 h3 h4 h5 h6 (ih h)
 | jY h1 h2 h3 h4 h5 h6 h7 h8 _ ih => exact fun h => .jY h1 h2 h3 h4 h5 h6 h7 h8 (ih h)
 | iy h1 h2 h3 h4 h5 h6 h7 h8 _ ih => exact fun h => .iy h1 h2 h3 h4 h5 h6 h7 h8 (ih h)
 | jH h1 h2 h3 _ h4 h5 h6 _ ih1 ih2 => exact fun h => .jH h1 h2 h3 (ih1 h) h4 h5 h6 (ih2 h)
 | iH h1 h2 _ ih => exact fun h => .iH h1 h2 (ih h)
 | call h1 h2 _ h3 h4 ih => exact fun h => .call h1 h2 (ih (dV.le.out h.1)) h3 h4
 | rangeFunc h1 h2 h3 h4 h5 _ ih => exact fun h => .rangeFunc ⟨h.2.1.trans h1.1, h.2.2.trans h1.2⟩ h2 h3 h4 h5 (ih (h.add _ _))
 | gQ h1 h2 h3 h4 h5 h6 _ _ h7 h8 h9 _ ih1 ih2 ih3 => exact fun h => .gQ h1 h2 h3 (h.1 _ _ h4) h5 h6 (ih1 (h.del _)) (ih2 (h.del _)) h7 h8 h9 (ih3 h)
 | direct hd => exact fun _ => .direct hd
 | pF _ _ ih1 ih2 => exact fun h => .pF (ih1 h) (ih2 h)
 | mh h1 h2 h3 h4 h5 h6 h7 _ h8 _ h9 ih1 ih2 => exact fun h => .mh h1 h2 h3 h4 h5 h6 h7 (ih1 h) h8 (ih2 h) h9
 | j8 h1 h2 _ h3 h4 h5 b2 h6 h7 h8 ih1 _ => exact fun h => .j8 h1 h2 (ih1 (dV.le.out h.1)) h3 h4 h5 b2 h6 h7 h8
theorem vi {dr : Array Oper → (Nat → Bool) → (Nat → Bool) → Prop} {ρ ρ' : dV} {f : FuncId} {args : Array Value} {h h' : ai} {v : Value} (hb : ee P dr ρ (.call f args h v h')) (hl : ∀ b c, ρ.c b = some c → ρ'.c b = some c) : ee P dr ρ' (.call f args h v h') := by
 cases hb with
 | call h1 h2 h3 h4 h5 => exact .call h1 h2 (uN h3 (dV.le.out hl)) h4 h5
 | direct hd => exact .direct hd
 | j8 h1 h2 b1 h3 h4 h5 b2 h6 h7 h8 => exact .j8 h1 h2 (uN b1 (dV.le.out hl)) h3 h4 h5 b2 h6 h7 h8
theorem Spec.yU {q : Bool} {f : FuncId} {args : Array Value} {Post : Value → an → Prop} (h : Spec P q f args O Post) (ρ : dV) : fW P ρ q f args O Post := fun g hg => by
 obtain ⟨v, h', O', a, b, c, d⟩ := h g hg
 exact ⟨v, h', O', vi a (fun b c hc => by cases hc), b, c, d⟩
theorem Spec.mono {q : Bool} {f : FuncId} {args : Array Value} {Post Post' : Value → an → Prop} (h : Spec P q f args O Post) (hp : ∀ v O', Post v O' → Post' v O') : Spec P q f args O Post' := fun g hg => by
 obtain ⟨v, h', O', a, b, c, d⟩ := h g hg
 exact ⟨v, h', O', a, hp v O' b, c, d⟩
def sq : Option Tmp → Value → da → da
 | some d, v, L => (d, v) :: L
 | none, _, L => L
def pH (P : Program) (f : FuncId) : Bool := match P.funcs[f]? with
 | some fn => fn.body.isSome && fn.name != "runtime.NumGoroutine"
 | none => false
def gM (L : da) : List Operand → Option (List Value)
 | [] => some []
 | y :: ys => match dc L y, gM L ys with
   | some v, some vs => some (v :: vs)
   | _, _ => none
theorem ah {f : FuncId} {fn : Func} (hf : P.funcs[f]? = some fn) (h : (fn.body.isSome && fn.name != "runtime.NumGoroutine") = true) : pH P f = true := by
 unfold pH
 rw [hf]
 exact h
theorem ae.yM {ops : Array Oper} {mq : Mk} {i : Nat} {g : Operand} {aas : Array Operand} {ts : Array TypeId} {dst : Option Tmp} {t : TypeId} {p : String} {af : Array Edge} {gd : Option (Nat × Bool)} {l : List Oper} {K : bN → Prop}
  {f : FuncId} {first cap : Array Value} {vs : List Value} {q : Bool} {O1 : an} {Post : Value → an → Prop}
  (hw : Met x L ops gd)
  (hf : dc L g = some (.func (.func f) first cap)) (hok : pH P f = true) (ha : gM L aas.toList = some vs) (hO : ∀ h, Sat h O → Sat h O1)
  (hq : q = true ∨ (mq.q i = false ∧ x.q = false ∧ ∀ v O', Post v O' → ∀ z ∈ mq.Z, ∃ y, (∀ h, Sat h O → Is h z.1 y) ∧ ∀ h, Sat h O' → Is h z.1 y)) (hspec : fW P (mq.yu x.ρ) q f (first.toList ++ vs ++ cap.toList).toArray O1 Post)
  (h : ∀ v O', Post v O' → ae P x ops mq (i + 1) l (sq dst v L) O' K) :
  ae P x ops mq i ({ dst := dst, op := .call { callee := .value g, args := aas, argTypes := ts }, type := t, pos := p, after := af, guard := gd } :: l) L O K := by
 intro hdr hqk s hs hz
 obtain ⟨ho, hd'⟩ := fZ hdr
 obtain ⟨v, h', O', b1, b2, b3, b4⟩ := hspec s.h (hO _ hs.sat)
 have hargs : aas.map s.ev = vs.toArray := by
  have key : ∀ (l : List Operand) (vs : List Value), gM L l = some vs → l.map s.ev = vs := by
   intro l
   induction l with
   | nil => intro vs h; simp [gM] at h; subst h; rfl
   | cons y l ih =>
    intro vs h
    unfold gM at h
    split at h
    · rename_i v us h1 h2
      obtain rfl := Option.some.inj h
      rw [List.map_cons, ih us h2, hs.t.ev h1]
    · cases h
  apply Array.toList_inj.1
  rw [Array.toList_map, key _ _ ha]
 have hcal : gV P { dst := dst, op := .call { callee := .value g, args := aas, argTypes := ts }, type := t, pos := p, after := af, guard := gd } s = some (f, (first.toList ++ vs ++ cap.toList).toArray) := by
  have harr : first ++ vs.toArray ++ cap = (first.toList ++ vs ++ cap.toList).toArray := by apply Array.toList_inj.1; simp
  unfold gV
  simp only [hs.t.ev hf, hargs, harr]
  unfold pH at hok
  split at hok
  · rename_i fn hfn
    rw [hfn]
    simp only [Bool.and_eq_true, bne_iff_ne, ne_eq] at hok
    simp only [hok.1, ne_eq, hok.2, not_false_eq_true, and_self, if_true]
  · cases hok
 have hold : q = true → Old s.h h' := b4
 have hst : St x (sq dst v L) O' (s.put dst v h') := by
  refine ⟨by rw [dR]; exact hs.m, ?_, by rw [bk]; exact b3, fun hx => ?_⟩
  · cases dst with
    | some d => exact hs.t.put _ _ _
    | none => exact hs.t
  · rw [bk]
    rcases hq with hq | hq
    · exact (hs.old hx).trans (hold hq)
    · rw [hq.2.1] at hx; cases hx
 have hgrow := (yQ b1 hs.sat.wf).2
 obtain ⟨s', g1, g2, g3⟩ := h v O' b2 hd' hqk _ hst (fun z hm => by rw [bk]; exact Nat.lt_of_lt_of_le (hz z hm) hgrow)
 refine ⟨s', .jH ho (hw s hs.t _ rfl) hcal b1 (fun hm => ?_) ?_ (fun z hm => ?_) g1, by rw [g2, dR], g3⟩
 · rcases hq with hq | hq
   · exact hold hq
   · rw [hq.1] at hm; cases hm
 · cases hl : mq.lz i with
   | false => rfl
   | true => exact absurd ((jc hqk ho).2 hl) (by simp [fN])
 · rcases hq with hq | hq
   · exact dh.of_eq ((hold hq).2 z.1 (hz z hm))
   · obtain ⟨y, y1, y2⟩ := hq.2.2 v O' b2 z hm
     obtain ⟨f1, k1, e1⟩ := y1 _ hs.sat
     obtain ⟨f2, k2, e2⟩ := y2 _ b3
     have key : ∀ (x : ep) {sz' : Nat} {c' : List Value} {ro : Bool} {f k : Nat}, x = .cells sz' ro f none k c' → ∀ sz c, (∃ ro f k, x = .cells sz ro f none k c) ↔ (sz = sz' ∧ c = c') := fun x sz' c' ro f k e sz c => by
      rw [e]
      constructor
      · rintro ⟨_, _, _, q⟩
        injection q with q1 _ _ _ _ q6
        exact ⟨q1.symm, q6.symm⟩
      · rintro ⟨rfl, rfl⟩
        exact ⟨ro, f, k, rfl⟩
     exact fun sz c => (key _ e2 sz c).trans (key _ e1 sz c).symm
theorem ae.xQ {ops : Array Oper} {mq : Mk} {i : Nat} {g : Operand} {aas : Array Operand} {ts : Array TypeId} {dst : Option Tmp} {t : TypeId} {p : String} {af : Array Edge} {gd : Option (Nat × Bool)} {l : List Oper} {K : bN → Prop}
  {f : FuncId} {first cap : Array Value} {vs : List Value} {q : Bool} {O1 : an} {Post : Value → an → Prop}
  (hw : Met x L ops gd)
  (hf : dc L g = some (.func (.func f) first cap)) (hok : pH P f = true) (ha : gM L aas.toList = some vs) (hO : ∀ h, Sat h O → Sat h O1)
  (hq : q = true ∨ (mq.q i = false ∧ x.q = false ∧ mq.Z = [])) (hspec : fW P (mq.yu x.ρ) q f (first.toList ++ vs ++ cap.toList).toArray O1 Post)
  (h : ∀ v O', Post v O' → ae P x ops mq (i + 1) l (sq dst v L) O' K) :
  ae P x ops mq i ({ dst := dst, op := .call { callee := .value g, args := aas, argTypes := ts }, type := t, pos := p, after := af, guard := gd } :: l) L O K :=
 ae.yM hw hf hok ha hO (hq.imp_right fun ⟨h1, h2, h3⟩ => ⟨h1, h2, fun _ _ _ z hz => by rw [h3] at hz; simp at hz⟩) hspec h
theorem ae.call {ops : Array Oper} {mq : Mk} {i : Nat} {g : Operand} {aas : Array Operand} {ts : Array TypeId} {dst : Option Tmp} {t : TypeId} {p : String} {af : Array Edge} {gd : Option (Nat × Bool)} {l : List Oper} {K : bN → Prop}
  {f : FuncId} {first cap : Array Value} {vs : List Value} {q : Bool} {O1 : an} {Post : Value → an → Prop}
  (hw : Met x L ops gd)
  (hf : dc L g = some (.func (.func f) first cap)) (hok : pH P f = true) (ha : gM L aas.toList = some vs) (hO : ∀ h, Sat h O → Sat h O1)
  (hq : q = true ∨ (mq.q i = false ∧ x.q = false ∧ mq.Z = [])) (hspec : Spec P q f (first.toList ++ vs ++ cap.toList).toArray O1 Post)
  (h : ∀ v O', Post v O' → ae P x ops mq (i + 1) l (sq dst v L) O' K) :
  ae P x ops mq i ({ dst := dst, op := .call { callee := .value g, args := aas, argTypes := ts }, type := t, pos := p, after := af, guard := gd } :: l) L O K :=
 ae.xQ hw hf hok ha hO hq (hspec.yU _) h
def mf (args : List Value) (i : Nat) : da := match args with
 | [] => []
 | v :: vs => (i, v) :: mf vs (i + 1)
theorem gB {t : Nat → Value} : ∀ (args : List Value) (i : Nat), (∀ j v, args[j]? = some v → t (i + j) = v) → Has t (mf args i)
 | [], _, _ => .nil
 | v :: vs, i, h => .cons (h 0 v rfl) (gB vs (i + 1) fun j u hu => by have := h (j + 1) u (by simpa using hu); rw [← this]; congr 1; omega)
def rv (P : Program) (fn : Func) (x : Cx) (Post : Value → an → Prop) : Exit → bN → Prop
 | .normal, s | .ret, s => ∃ vs O', cr P fn s = some vs ∧ Post (eB vs) O' ∧ Sat s.h O' ∧ (x.q = true → Old x.h0 s.h)
 | _, _ => False
theorem Spec.enter {q : Bool} {f : FuncId} {fn : Func} {c : Code} {args : List Value} {m : Nat} {Post : Value → an → Prop} (hf : P.funcs[f]? = some fn) (hb : fn.body = some c) (hm : max fn.ntmps args.length = m) (hok : codeOk m c = true)
  (h : ∀ h0, WX P ⟨m, q, h0, .none⟩ c (mf args 0) O (rv P fn ⟨m, q, h0, .none⟩ Post)) : Spec P q f args.toArray O Post := by
 intro g hg
 obtain ⟨e, s', h1, h2, h3⟩ := h g (cz fn args.toArray g) ⟨by simpa [cz] using hm, gB args 0 fun j v hj => by simp [cz, Array.getD_eq_getD_getElem?, hj], hg, fun _ => Old.refl g⟩ (by rw [show (cz fn args.toArray g).m = m from by simpa [cz] using hm]; exact hok)
 have key : (e = .normal ∨ e = .ret) ∧ ∃ vs O', cr P fn s' = some vs ∧ Post (eB vs) O' ∧ Sat s'.h O' ∧ (q = true → Old g s'.h) := by
  cases e with
  | normal => exact ⟨.inl rfl, h3⟩
  | ret => exact ⟨.inr rfl, h3⟩
  | _ => exact h3.elim
 obtain ⟨he, vs, O', k1, k2, k3, k4⟩ := key
 exact ⟨eB vs, s'.h, O', .call hf hb h1 he k1, k2, k3, k4⟩
theorem fW.enter {ρ : dV} {q : Bool} {f : FuncId} {fn : Func} {c : Code} {args : List Value} {m : Nat} {Post : Value → an → Prop} (hf : P.funcs[f]? = some fn) (hb : fn.body = some c) (hm : max fn.ntmps args.length = m) (hok : codeOk m c = true)
  (h : ∀ h0, WX P ⟨m, q, h0, ρ.out⟩ c (mf args 0) O (rv P fn ⟨m, q, h0, ρ.out⟩ Post)) : fW P ρ q f args.toArray O Post := by
 intro g hg
 obtain ⟨e, s', h1, h2, h3⟩ := h g (cz fn args.toArray g) ⟨by simpa [cz] using hm, gB args 0 fun j v hj => by simp [cz, Array.getD_eq_getD_getElem?, hj], hg, fun _ => Old.refl g⟩ (by rw [show (cz fn args.toArray g).m = m from by simpa [cz] using hm]; exact hok)
 have key : (e = .normal ∨ e = .ret) ∧ ∃ vs O', cr P fn s' = some vs ∧ Post (eB vs) O' ∧ Sat s'.h O' ∧ (q = true → Old g s'.h) := by
  cases e with
  | normal => exact ⟨.inl rfl, h3⟩
  | ret => exact ⟨.inr rfl, h3⟩
  | _ => exact h3.elim
 obtain ⟨he, vs, O', k1, k2, k3, k4⟩ := key
 exact ⟨eB vs, s'.h, O', .call hf hb h1 he k1, k2, k3, k4⟩
def tN (L : da) : List ResultVar → Option (List Value)
 | [] => some []
 | .tmp t :: rs => match jQ L t, tN L rs with
   | some v, some vs => some (v :: vs)
   | _, _ => none
 | _ => none
theorem Has.res {s : bN} (h : Has s.t L) : ∀ {rs : List ResultVar} {vs : List Value}, tN L rs = some vs → rs.mapM (oQ P s) = some vs
 | [], vs, hr => by simp [tN] at hr; subst hr; rfl
 | .tmp t :: rs, vs, hr => by
  unfold tN at hr
  split at hr
  · rename_i v us h1 h2
    obtain rfl := Option.some.inj hr
    rw [List.mapM_cons, Has.res h h2]
    show (some (s.t t)).bind _ = _
    rw [h t v h1]
    rfl
  · cases hr
 | .cell _ _ :: rs, vs, hr => by simp [tN] at hr
theorem Fin.result {fn : Func} {Post : Value → an → Prop} {rs : List ResultVar} {vs : List Value} {e : Exit} (he : e = .normal ∨ e = .ret) (hr : fn.results.toList = rs) (hv : tN L rs = some vs) (hO : ∀ h, Sat h O → Sat h O') (hp : Post (eB vs) O') :
  Fin x L O e (rv P fn x Post) := by
 intro s hs
 have : ∃ vs O', cr P fn s = some vs ∧ Post (eB vs) O' ∧ Sat s.h O' ∧ (x.q = true → Old x.h0 s.h) :=
  ⟨vs, O', by unfold cr; rw [hr]; exact hs.t.res hv, hp, hO _ hs.sat, hs.old⟩
 rcases he with rfl | rfl <;> exact this
def Told (L : da) : da → Prop
 | [] => True
 | q :: L' => jQ L q.1 = some q.2 ∧ Told L L'
theorem Has.told {t : Nat → Value} {L : da} (h : Has t L) : ∀ {L' : da}, Told L L' → Has t L'
 | [], _ => .nil
 | (d, v) :: L', ht => .cons (h d v ht.1) (Has.told h ht.2)
theorem St.told {s : bN} (hs : St x L O s) {L' : da} (hL : Told L L') (is : List Nat) (n : Nat) (hnd : is.Nodup) (hlt : ∀ i ∈ is, i < n) (hO : Eng.pick O is ++ O.drop n = O') : St x L' O' s :=
 ⟨hs.m, hs.t.told hL, by rw [← hO]; exact hs.sat.pick is n hnd hlt, hs.old⟩
end Go.Proofs.YthekokdpplobhaaGreat.Eng
set_option linter.unusedVariables false
set_option linter.unusedSimpArgs false
namespace Go.Proofs.YthekokdpplobhaaGreat.Eng
variable {P : Program} {x : Cx} {L L' : da} {O O' : an} {ops : Array Oper} {mq : Mk} {i : Nat} {l : List Oper} {K : bN → Prop}
  {t u : TypeId} {p : String} {af : Array Edge} {gd : Option (Nat × Bool)} {d : Tmp}
theorem ae.stepG {o : Oper} (hl : fN o.op = false ∨ mq.lz i = false) (hw : Met x L ops o.guard)
  (ha : ∀ s, St x L O s → (∀ z ∈ mq.Z, z.1 < s.h.n) → ∃ v h', eg P o s = some (v, h') ∧ ((iS o.op = false) → Quiet s.h h') ∧ (∀ z ∈ mq.Z, h'.o z.1 = s.h.o z.1) ∧ ∃ L' O', St x L' O' (s.put o.dst v h') ∧ ae P x ops mq (i + 1) l L' O' K) : ae P x ops mq i (o :: l) L O K := by
 intro hd hq s hs hz
 obtain ⟨ho, hd'⟩ := fZ hd
 obtain ⟨v, h', h1, h2, h2z, L', O', h3, h⟩ := ha s hs hz
 have hgrow := (kh h1 hs.sat.wf).2
 obtain ⟨s', g1, g2, g3⟩ := h hd' hq _ h3 (fun z hm => by rw [bk]; exact Nat.lt_of_lt_of_le (hz z hm) hgrow)
 refine ⟨s', .op ho (hw s hs.t o rfl) h1 (fun hm => h2 ((jc hq ho).1 hm)) ?_ h2z g1, by rw [g2, dR], g3⟩
 rcases hl with hl | hl
 · cases hx : mq.lz i with
   | false => rfl
   | true => rw [(jc hq ho).2 hx] at hl; cases hl
 · exact hl
theorem ae.val {op : Op} {v : Value} (hl : fN op = false ∨ mq.lz i = false) (hw : Met x L ops gd) (ha : ∀ s, St x L O s → eg P { dst := some d, op := op, type := t, pos := p, after := af, guard := gd } s = some (v, s.h)) (h : ae P x ops mq (i + 1) l ((d, v) :: L) O K) :
  ae P x ops mq i ({ dst := some d, op := op, type := t, pos := p, after := af, guard := gd } :: l) L O K :=
 ae.stepG hl hw fun s hs _ => ⟨v, s.h, ha s hs, fun _ => Quiet.refl _, fun _ _ => rfl, _, _, ⟨hs.m, hs.t.put _ _ _, hs.sat, hs.old⟩, h⟩
theorem ae.split {b : Bool} (hd : jQ L d = some (.bool b)) (h1 : b = true → ae P x ops mq i l ((d, .bool true) :: L) O K) (h2 : b = false → ae P x ops mq i l ((d, .bool false) :: L) O K) : ae P x ops mq i l L O K := by
 intro hl hq s hs hz
 have hd' := hs.t d _ hd
 cases b with
 | true => exact h1 rfl hl hq s ⟨hs.m, .cons hd' hs.t, hs.sat, hs.old⟩ hz
 | false => exact h2 rfl hl hq s ⟨hs.m, .cons hd' hs.t, hs.sat, hs.old⟩ hz
theorem ae.of (h0 : ∀ s, St x L O s → St x L' O' s) (h : ae P x ops mq i l L' O' K) : ae P x ops mq i l L O K := fun a b s hs hz => h a b s (h0 s hs) hz
theorem ae.move {y : Operand} {v : Value} (hw : Met x L ops gd) (hy : dc L y = some v) (h : ae P x ops mq (i + 1) l ((d, v) :: L) O K) : ae P x ops mq i ({ dst := some d, op := .move y, type := t, pos := p, after := af, guard := gd } :: l) L O K :=
 ae.val (.inl rfl) hw (fun s hs => by simp only [eg, hs.t.ev hy]) h
theorem ae.assign {y : Operand} {v : Value} (hw : Met x L ops gd) (hy : dc L y = some v) (h : ae P x ops mq (i + 1) l ((d, v) :: L) O K) : ae P x ops mq i ({ dst := some d, op := .assign y, type := t, pos := p, after := af, guard := gd } :: l) L O K :=
 ae.val (.inl rfl) hw (fun s hs => by simp only [eg, hs.t.ev hy]) h
theorem ae.bC {c y z : Operand} {v : Value} (hw : Met x L ops gd) (hc : dc L c = some (.bool true)) (hy : dc L y = some v) (h : ae P x ops mq (i + 1) l ((d, v) :: L) O K) : ae P x ops mq i ({ dst := some d, op := .pick c y z, type := t, pos := p, after := af, guard := gd } :: l) L O K :=
 ae.val (.inl rfl) hw (fun s hs => by simp only [eg, hs.t.ev hc, hs.t.ev hy]) h
theorem ae.bd {c y z : Operand} {v : Value} (hw : Met x L ops gd) (hc : dc L c = some (.bool false)) (hy : dc L z = some v) (h : ae P x ops mq (i + 1) l ((d, v) :: L) O K) : ae P x ops mq i ({ dst := some d, op := .pick c y z, type := t, pos := p, after := af, guard := gd } :: l) L O K :=
 ae.val (.inl rfl) hw (fun s hs => by simp only [eg, hs.t.ev hc, hs.t.ev hy]) h
theorem ae.extract {y : Operand} {vs : Array Value} {n : Nat} {v : Value} (hw : Met x L ops gd) (hy : dc L y = some (.tuple vs)) (hv : vs[n]? = some v) (h : ae P x ops mq (i + 1) l ((d, v) :: L) O K) :
  ae P x ops mq i ({ dst := some d, op := .extract y n, type := t, pos := p, after := af, guard := gd } :: l) L O K :=
 ae.val (.inl rfl) hw (fun s hs => by simp only [eg, hs.t.ev hy, hv, Option.map_some]) h
theorem gv {op : BinOp} {y z : Operand} {a b v : Value} {w : TypeId} {s : bN} (hy : s.ev y = a) (hz : s.ev z = b) (ha : aX a = true) (hb : aX b = true) (hv : bI P (do eqGuard op t y z a b; binOp op t a b) = some v) (hp : aX v = true) :
  eg P { dst := some d, op := .binOp op t y z w, type := u, pos := p, after := af, guard := gd } s = some (v, s.h) := by
 have e : bI P (execOp s.ev { dst := some d, op := .binOp op t y z w, type := u, pos := p, after := af, guard := gd }) = some (.value v) := by
  show bI P ((do eqGuard op t y z (s.ev y) (s.ev z); binOp op t (s.ev y) (s.ev z)) >>= fun v => pure (Next.value v)) = _
  rw [bj, hy, hz, hv]
  rfl
 unfold eg
 simp only
 unfold eC
 have hall : (#[y, z].all fun x => aX (s.ev x)) = true := by simp [hy, hz, ha, hb]
 simp only [Op.operands, hall, e, hp, if_true, Option.map_some]
def kT : BinOp → IntKind → Int → Int → Option Value
 | .add, k, a, b => some (.int k (k.wrap (a + b)))
 | .sub, k, a, b => some (.int k (k.wrap (a - b)))
 | .mul, k, a, b => some (.int k (k.wrap (a * b)))
 | .eql, _, a, b => some (.bool (decide (a = b)))
 | .neq, _, a, b => some (.bool (!decide (a = b)))
 | .lss, _, a, b => some (.bool (decide (a < b)))
 | .leq, _, a, b => some (.bool (decide (a ≤ b)))
 | .gtr, _, a, b => some (.bool (decide (b < a)))
 | .geq, _, a, b => some (.bool (decide (b ≤ a)))
 | .and, k, a, b => some (.int k (k.wrap ((BitVec.ofInt k.bits a) &&& (BitVec.ofInt k.bits b)).toNat))
 | .or, k, a, b => some (.int k (k.wrap ((BitVec.ofInt k.bits a) ||| (BitVec.ofInt k.bits b)).toNat))
 | .xor, k, a, b => some (.int k (k.wrap ((BitVec.ofInt k.bits a) ^^^ (BitVec.ofInt k.bits b)).toNat))
 | .andNot, k, a, b => some (.int k (k.wrap ((BitVec.ofInt k.bits a) &&& ~~~(BitVec.ofInt k.bits b)).toNat))
 | _, _, _, _ => none
theorem th {op : BinOp} {y z : Operand} {k : IntKind} {a b : Int} {v : Value} (hv : kT op k a b = some v) : bI P (do eqGuard op t y z (.int k a) (.int k b); binOp op t (.int k a) (.int k b)) = some v ∧ aX v = true := by
 cases op <;> simp only [kT, Option.some.injEq, reduceCtorEq] at hv <;> subst hv <;> refine ⟨?_, rfl⟩ <;> simp [eqGuard, binOp, Op.intArith, Op.intCmp, Op.intBits, bI, bind, Sem.bind, pure] <;> rfl
theorem ae.bin {op : BinOp} {y z : Operand} {k : IntKind} {a b : Int} {v : Value} {w : TypeId} (hw : Met x L ops gd) (hy : dc L y = some (.int k a)) (hz : dc L z = some (.int k b)) (hv : kT op k a b = some v) (h : ae P x ops mq (i + 1) l ((d, v) :: L) O K) :
  ae P x ops mq i ({ dst := some d, op := .binOp op u y z w, type := t, pos := p, after := af, guard := gd } :: l) L O K :=
 ae.val (.inl rfl) hw (fun s hs => gv (hs.t.ev hy) (hs.t.ev hz) rfl rfl (th hv).1 (th (P := P) (t := u) (y := y) (z := z) hv).2) h
theorem ae.quo {y z : Operand} {k : IntKind} {a b r : Int} {w : TypeId} (hw : Met x L ops gd) (hy : dc L y = some (.int k a)) (hz : dc L z = some (.int k b)) (hb : b ≠ 0) (hr : k.wrap (a.tdiv b) = r) (h : ae P x ops mq (i + 1) l ((d, .int k r) :: L) O K) :
  ae P x ops mq i ({ dst := some d, op := .binOp .quo u y z w, type := t, pos := p, after := af, guard := gd } :: l) L O K :=
 ae.val (.inl rfl) hw (fun s hs => gv (hs.t.ev hy) (hs.t.ev hz) rfl rfl (by subst hr; simp [eqGuard, binOp, Op.intDiv, hb, bI, bind, Sem.bind, pure]) rfl) h
theorem ae.rem {y z : Operand} {k : IntKind} {a b : Int} {w : TypeId} (hw : Met x L ops gd) (hy : dc L y = some (.int k a)) (hz : dc L z = some (.int k b)) (hb : b ≠ 0) (h : ae P x ops mq (i + 1) l ((d, .int k (a.tmod b)) :: L) O K) :
  ae P x ops mq i ({ dst := some d, op := .binOp .rem u y z w, type := t, pos := p, after := af, guard := gd } :: l) L O K :=
 ae.val (.inl rfl) hw (fun s hs => gv (hs.t.ev hy) (hs.t.ev hz) rfl rfl (by simp [eqGuard, binOp, Op.intDiv, hb, bI, bind, Sem.bind, pure]) rfl) h
theorem ae.shl {y z : Operand} {k k' : IntKind} {a b : Int} {w : TypeId} (hw : Met x L ops gd) (hy : dc L y = some (.int k a)) (hz : dc L z = some (.int k' b)) (hb : 0 ≤ b) (h : ae P x ops mq (i + 1) l ((d, .int k (k.wrap (a * 2 ^ (min b.toNat k.bits)))) :: L) O K) :
  ae P x ops mq i ({ dst := some d, op := .binOp .shl u y z w, type := t, pos := p, after := af, guard := gd } :: l) L O K :=
 ae.val (.inl rfl) hw (fun s hs => gv (hs.t.ev hy) (hs.t.ev hz) rfl rfl (by simp [eqGuard, binOp, Op.shift, Int.not_lt.2 hb, bI, bind, Sem.bind, pure]) rfl) h
theorem ae.shr {y z : Operand} {k k' : IntKind} {a b : Int} {w : TypeId} (hw : Met x L ops gd) (hy : dc L y = some (.int k a)) (hz : dc L z = some (.int k' b)) (hb : 0 ≤ b) (h : ae P x ops mq (i + 1) l ((d, .int k (a.fdiv (2 ^ (min b.toNat k.bits)))) :: L) O K) :
  ae P x ops mq i ({ dst := some d, op := .binOp .shr u y z w, type := t, pos := p, after := af, guard := gd } :: l) L O K :=
 ae.val (.inl rfl) hw (fun s hs => gv (hs.t.ev hy) (hs.t.ev hz) rfl rfl (by simp [eqGuard, binOp, Op.shift, Int.not_lt.2 hb, bI, bind, Sem.bind, pure]) rfl) h
theorem fh {t : TypeId} {td : TypeDesc} (hu : P.underlying t = some td) : bI P (underlying t) = some td := by
 unfold underlying
 rw [bj]
 show (some P).bind _ = _
 simp only [Option.bind_some, hu]
 rfl
theorem nO {t : TypeId} {n : Nat} {a b : Bool} (hu : P.underlying t = some .bool) : bI P (Op.equalIn (n + 1) t (.bool a) (.bool b)) = some (a == b) := by
 unfold Op.equalIn
 rw [bj, fh hu]
 rfl
theorem wU {t : TypeId} {a b : Bool} {y z : Operand} (hu : P.underlying t = some .bool) : bI P (do eqGuard .eql t y z (.bool a) (.bool b); binOp .eql t (.bool a) (.bool b)) = some (.bool (a == b)) := by
 have e : binOp .eql t (.bool a) (.bool b) = (Op.equalIn (9999 + 1) t (.bool a) (.bool b) >>= fun r => pure (.bool r)) := rfl
 rw [bj, e, bj, nO hu]
 rfl
theorem xl {t : TypeId} {a b : Bool} {y z : Operand} (hu : P.underlying t = some .bool) : bI P (do eqGuard .neq t y z (.bool a) (.bool b); binOp .neq t (.bool a) (.bool b)) = some (.bool (!(a == b))) := by
 have e : binOp .neq t (.bool a) (.bool b) = (Op.equalIn (9999 + 1) t (.bool a) (.bool b) >>= fun r => pure (.bool (!r))) := rfl
 rw [bj, e, bj, nO hu]
 rfl
theorem ae.zk {y z : Operand} {a b : Bool} {w : TypeId} (hw : Met x L ops gd) (hy : dc L y = some (.bool a)) (hz : dc L z = some (.bool b)) (hu : P.underlying u = some .bool) (h : ae P x ops mq (i + 1) l ((d, .bool (a == b)) :: L) O K) :
  ae P x ops mq i ({ dst := some d, op := .binOp .eql u y z w, type := t, pos := p, after := af, guard := gd } :: l) L O K :=
 ae.val (.inl rfl) hw (fun s hs => gv (hs.t.ev hy) (hs.t.ev hz) rfl rfl (wU hu) rfl) h
theorem ae.vu {y z : Operand} {a b : Bool} {w : TypeId} (hw : Met x L ops gd) (hy : dc L y = some (.bool a)) (hz : dc L z = some (.bool b)) (hu : P.underlying u = some .bool) (h : ae P x ops mq (i + 1) l ((d, .bool (!(a == b))) :: L) O K) :
  ae P x ops mq i ({ dst := some d, op := .binOp .neq u y z w, type := t, pos := p, after := af, guard := gd } :: l) L O K :=
 ae.val (.inl rfl) hw (fun s hs => gv (hs.t.ev hy) (hs.t.ev hz) rfl rfl (xl hu) rfl) h
theorem qk {o : Op} {y : Operand} {a v : Value} {s : bN} {g : Value → Sem Value} (ho : o.operands = #[y]) (hx : ∀ (o' : Oper) (ρ : Operand → Value), o'.op = o → execOp ρ o' = (g (ρ y) >>= fun v => pure (Next.value v)))
  (hd : ∀ o' : Oper, o'.op = o → eg P o' s = (eC P o' s.ev).map (·, s.h)) (hy : s.ev y = a) (ha : aX a = true) (hv : bI P (g a) = some v) (hp : aX v = true) :
  eg P { dst := some d, op := o, type := u, pos := p, after := af, guard := gd } s = some (v, s.h) := by
 rw [hd _ rfl]
 unfold eC
 have hall : (#[y].all fun x => aX (s.ev x)) = true := by simp [hy, ha]
 simp only [ho, hall, if_true]
 rw [hx _ _ rfl, bj, hy, hv]
 simp [bI, pure, hp]
theorem ae.not {y : Operand} {b : Bool} {ty : TypeId} (hw : Met x L ops gd) (hy : dc L y = some (.bool b)) (h : ae P x ops mq (i + 1) l ((d, .bool (!b)) :: L) O K) :
  ae P x ops mq i ({ dst := some d, op := .unOp .not ty y, type := t, pos := p, after := af, guard := gd } :: l) L O K :=
 ae.val (.inl rfl) hw (fun s hs => qk (g := Op.unary .not) rfl (fun o' ρ h => by unfold execOp; rw [h]) (fun o' h => by unfold eg; rw [h]) (hs.t.ev hy) rfl rfl rfl) h
theorem ae.neg {y : Operand} {k : IntKind} {a r : Int} {ty : TypeId} (hw : Met x L ops gd) (hy : dc L y = some (.int k a)) (hr : k.wrap (0 - a) = r) (h : ae P x ops mq (i + 1) l ((d, .int k r) :: L) O K) :
  ae P x ops mq i ({ dst := some d, op := .unOp .neg ty y, type := t, pos := p, after := af, guard := gd } :: l) L O K :=
 ae.val (.inl rfl) hw (fun s hs => qk (g := Op.unary .neg) rfl (fun o' ρ h => by unfold execOp; rw [h]) (fun o' h => by unfold eg; rw [h]) (hs.t.ev hy) rfl (by subst hr; rfl) rfl) h
theorem wrap_i64 {n : Int} (h1 : -9223372036854775808 ≤ n) (h2 : n ≤ 9223372036854775807) : IntKind.wrap .i64 n = n := by
 unfold IntKind.wrap
 have e1 : (2 : Int) ^ IntKind.bits .i64 = 18446744073709551616 := rfl
 have e2 : (2 : Int) ^ (IntKind.bits .i64 - 1) = 9223372036854775808 := rfl
 have e3 : IntKind.signed .i64 = true := rfl
 simp only [e1, e2, e3, Bool.true_and, decide_eq_true_eq]
 split <;> omega
theorem nL {a b : Int} (hb : 0 < b) : (0 ≤ a → 0 ≤ a.tdiv b ∧ a.tdiv b ≤ a) ∧ (a ≤ 0 → a ≤ a.tdiv b ∧ a.tdiv b ≤ 0) := by
 refine ⟨fun h => ⟨Int.tdiv_nonneg h (Int.le_of_lt hb), ?_⟩, fun h => ?_⟩
 · rw [Int.tdiv_eq_ediv_of_nonneg h]
   exact Int.ediv_le_self b h
 · have e : a.tdiv b = -((-a).tdiv b) := by rw [Int.neg_tdiv]; omega
   have h1 : 0 ≤ (-a).tdiv b := Int.tdiv_nonneg (by omega) (Int.le_of_lt hb)
   have h2 : (-a).tdiv b ≤ -a := by
    rw [Int.tdiv_eq_ediv_of_nonneg (by omega)]
    exact Int.ediv_le_self b (by omega)
   omega
theorem uV {a b : Int} (h1 : -9223372036854775808 ≤ a) (h2 : a ≤ 9223372036854775807) (hb : 0 < b) : IntKind.wrap .i64 (a.tdiv b) = a.tdiv b := by
 obtain ⟨p, q⟩ := nL (a := a) hb
 rcases Int.le_total 0 a with h | h
 · obtain ⟨p1, p2⟩ := p h
   exact wrap_i64 (by omega) (by omega)
 · obtain ⟨p1, p2⟩ := q h
   exact wrap_i64 (by omega) (by omega)
theorem rn {n : Int} (h1 : -9223372036854775807 ≤ n) (h2 : n ≤ 9223372036854775807) : IntKind.wrap .i64 (0 - n) = -n := by
 rw [wrap_i64 (by omega) (by omega)]
 omega
theorem tu {b : Builtin} {y z : Operand} {k : IntKind} {a c : Int} {v : Value} {ts : Array TypeId} {s : bN} (hb : b = .min ∨ b = .max) (hy : s.ev y = .int k a) (hz : s.ev z = .int k c) (hv : v = .int k (if b = .max then max a c else min a c)) :
  eg P { dst := some d, op := .call { callee := .builtin b, args := #[y, z], argTypes := ts }, type := u, pos := p, after := af, guard := gd } s = some (v, s.h) := by
 have hall : (#[y, z].all fun x => aX (s.ev x)) = true := by simp [hy, hz, aX]
 have e : bI P (execOp s.ev { dst := some d, op := .call { callee := .builtin b, args := #[y, z], argTypes := ts }, type := u, pos := p, after := af, guard := gd }) = some (.value v) := by
  subst hv
  have hm : #[y, z].map s.ev = #[.int k a, .int k c] := by simp [hy, hz]
  rcases hb with rfl | rfl
  · show bI P (Builtin.min_ ts u (#[y, z].map s.ev) >>= fun v => pure (Next.value v)) = _
    rw [hm]
    show some (Next.value (.int k (if c < a then c else a))) = _
    simp only [reduceCtorEq, if_false, Option.some.injEq, Next.value.injEq, Value.int.injEq, true_and]
    omega
  · show bI P (Builtin.max_ ts u (#[y, z].map s.ev) >>= fun v => pure (Next.value v)) = _
    rw [hm]
    show some (Next.value (.int k (if c > a then c else a))) = _
    simp only [if_true, Option.some.injEq, Next.value.injEq, Value.int.injEq, true_and]
    omega
 have hp : aX v = true := by subst hv; rfl
 rcases hb with rfl | rfl <;> (unfold eg; simp only; unfold eC; simp only [Op.operands, Call.operands, Array.empty_append, hall, e, hp, if_true, Option.map_some])
theorem ae.min {y z : Operand} {k : IntKind} {a c : Int} {ts : Array TypeId} (hw : Met x L ops gd) (hy : dc L y = some (.int k a)) (hz : dc L z = some (.int k c)) (h : ae P x ops mq (i + 1) l ((d, .int k (Min.min a c)) :: L) O K) :
  ae P x ops mq i ({ dst := some d, op := .call { callee := .builtin .min, args := #[y, z], argTypes := ts }, type := t, pos := p, after := af, guard := gd } :: l) L O K :=
 ae.val (.inl rfl) hw (fun s hs => tu (.inl rfl) (hs.t.ev hy) (hs.t.ev hz) rfl) h
theorem ae.max {y z : Operand} {k : IntKind} {a c : Int} {ts : Array TypeId} (hw : Met x L ops gd) (hy : dc L y = some (.int k a)) (hz : dc L z = some (.int k c)) (h : ae P x ops mq (i + 1) l ((d, .int k (Max.max a c)) :: L) O K) :
  ae P x ops mq i ({ dst := some d, op := .call { callee := .builtin .max, args := #[y, z], argTypes := ts }, type := t, pos := p, after := af, guard := gd } :: l) L O K :=
 ae.val (.inl rfl) hw (fun s hs => tu (.inr rfl) (hs.t.ev hy) (hs.t.ev hz) rfl) h
theorem ae.len {y : Operand} {ty e : TypeId} {a : Option Addr} {n c : Nat} (hw : Met x L ops gd) (hy : dc L y = some (.slice a n c)) (hu : P.underlying ty = some (.slice e)) (h : ae P x ops mq (i + 1) l ((d, .int .i64 n) :: L) O K) :
  ae P x ops mq i ({ dst := some d, op := .call { callee := .builtin .len, args := #[y], argTypes := #[ty] }, type := t, pos := p, after := af, guard := gd } :: l) L O K :=
 ae.val (.inl rfl) hw (fun s hs => by simp [eg, xn, hu, hs.t.ev hy]) h
end Go.Proofs.YthekokdpplobhaaGreat.Eng
set_option linter.unusedVariables false
set_option linter.unusedSimpArgs false
namespace Go.Proofs.YthekokdpplobhaaGreat.Eng
variable {P : Program} {x : Cx} {L L' : da} {O O' : an} {ops : Array Oper} {mq : Mk} {i : Nat} {l : List Oper} {K : bN → Prop}
  {t u : TypeId} {p : String} {af : Array Edge} {gd : Option (Nat × Bool)} {d : Tmp}
abbrev Ptr (b off : Nat) : Value := .pointer (some ⟨b, off, none⟩)
abbrev Row (b off n c : Nat) : Value := .slice (some ⟨b, off, none⟩) n c
abbrev I (n : Int) : Value := .int .i64 n
def aU (O : an) (b : Nat) (y : gl) : Prop := ∀ h, Sat h O → Is h b y
theorem aU.at (j : Nat) {b : Nat} {y : gl} (h : O[j]? = some (b, y)) : aU O b y := fun _ hs => hs.at h
theorem aU.mem {b : Nat} {y : gl} (h : (b, y) ∈ O) : aU O b y := fun _ hs => hs.mem h
def Src (O : an) (sz : Nat) (v : Value) (n : Nat) (cs : List Value) : Prop := ∀ h, Sat h O → iX h sz v = some (n, cs)
theorem Src.nil {sz : Nat} : Src O sz (.slice none 0 0) 0 [] := fun _ _ => rfl
theorem Src.of {b off n c sz : Nat} {y : gl} {cs : List Value} (hk : aU O b y) (hl : off + n * sz ≤ y.c.length) (he : (y.c.drop off).take (n * sz) = cs) : Src O sz (Row b off n c) n cs := by
 intro h hs
 have := (hk h hs).rd
 unfold iX
 simp only [this]
 rw [if_pos hl, he]
theorem ae.indexAddr {y z : Operand} {ty e : TypeId} {b off n c sz : Nat} {k : IntKind} {j : Int} {off' : Nat} (hw : Met x L ops gd) (hy : dc L y = some (Row b off n c)) (hz : dc L z = some (.int k j))
  (he : elemOf P ty = some e) (hs : cR P e = some sz) (h0 : 0 ≤ j) (h1 : j < n) (ho : off + j.toNat * sz = off') (h : ae P x ops mq (i + 1) l ((d, Ptr b off') :: L) O K) :
  ae P x ops mq i ({ dst := some d, op := .indexAddr ty y z, type := t, pos := p, after := af, guard := gd } :: l) L O K :=
 ae.val (.inl rfl) hw (fun s hst => by
  subst ho
  simp only [eg, hst.t.ev hy, hst.t.ev hz, oj, he, hs, Option.bind_some]
  rw [if_pos ⟨h0, h1⟩]
  rfl) h
theorem ae.fieldAddr {y : Operand} {ty : TypeId} {b off f sz : Nat} {fs : Array Field} {g : Field} {off' : Nat} (hw : Met x L ops gd) (hy : dc L y = some (Ptr b off)) (hu : P.underlying ty = some (.struct fs)) (hg : fs[f]? = some g)
  (hs : cR P g.type = some (sz + 1)) (ho : off + g.offset = off') (h : ae P x ops mq (i + 1) l ((d, Ptr b off') :: L) O K) :
  ae P x ops mq i ({ dst := some d, op := .fieldAddr ty y f, type := t, pos := p, after := af, guard := gd } :: l) L O K :=
 ae.val (.inl rfl) hw (fun s hst => by
  subst ho
  simp only [eg, hst.t.ev hy, ny, hu, hg, hs]
  rfl) h
theorem ae.yD {y : Operand} {ty : TypeId} {b off : Nat} {e : gl} {v : Value} (hlz : mq.lz i = false) (hw : Met x L ops gd) (hy : dc L y = some (Ptr b off)) (hk : aU O b e) (ht : de P ty = some false) (hv : e.c[off]? = some v)
  (h : ae P x ops mq (i + 1) l ((d, v) :: L) O K) : ae P x ops mq i ({ dst := some d, op := .load ty y, type := t, pos := p, after := af, guard := gd } :: l) L O K :=
 ae.val (.inr hlz) hw (fun s hst => by
  simp only [eg, hst.t.ev hy, gN, (hk _ hst.sat).rd, ht, hv]
  rfl) h
def mg (c : List Value) (off n : Nat) : Option (List Value) := if off + n ≤ c.length then some ((c.drop off).take n) else none
theorem ae.yI {y : Operand} {ty : TypeId} {b off n : Nat} {e : gl} {vs : List Value} (hlz : mq.lz i = false) (hw : Met x L ops gd) (hy : dc L y = some (Ptr b off)) (hk : aU O b e) (ht : de P ty = some true) (hn : cR P ty = some n) (hv : mg e.c off n = some vs)
  (h : ae P x ops mq (i + 1) l ((d, .agg vs.toArray) :: L) O K) : ae P x ops mq i ({ dst := some d, op := .load ty y, type := t, pos := p, after := af, guard := gd } :: l) L O K :=
 ae.val (.inr hlz) hw (fun s hst => by
  unfold mg at hv
  split at hv
  · rename_i hlen
    obtain rfl := Option.some.inj hv
    simp only [eg, hst.t.ev hy, gN, (hk _ hst.sat).rd, ht, hn]
    rw [if_pos hlen]
    rfl
  · cases hv) h
def Clear (O : an) (j : Nat) (Z : List (Nat × Bool)) : Prop := ∀ z ∈ Z, ∃ j' y, j' ≠ j ∧ O[j']? = some (z.1, y)
theorem Clear.nil {j : Nat} : Clear O j [] := fun _ h => by simp at h
theorem Clear.cons {j : Nat} {z : Nat × Bool} {Z : List (Nat × Bool)} (j' : Nat) {y : gl} (hn : Nat.beq j' j = false) (h : O[j']? = some (z.1, y)) (hr : Clear O j Z) : Clear O j (z :: Z) := by
 intro z' hz
 rcases List.mem_cons.1 hz with rfl | hz
 · exact ⟨j', y, fun e => by subst e; simp at hn, h⟩
 · exact hr z' hz
theorem Clear.ne {j b : Nat} {y : gl} {Z : List (Nat × Bool)} {h : ai} (hc : Clear O j Z) (hs : Sat h O) (hj : O[j]? = some (b, y)) : ∀ z ∈ Z, z.1 ≠ b := by
 intro z hz e
 subst e
 obtain ⟨j', y', h1, h2⟩ := hc z hz
 exact h1 (eX hs.nd h2 hj rfl)
theorem ae.fresh {op : Op} {c : List Value} {sz : Nat} {V : Nat → Value} (hno : fN op = false) (hw : Met x L ops gd) (ha : ∀ s, St x L O s → eg P { dst := some d, op := op, type := t, pos := p, after := af, guard := gd } s = some (V s.h.n, s.h.new (.cells sz false s.h.n none 0 c)))
  (h : ∀ b, ae P x ops mq (i + 1) l ((d, V b) :: L) ((b, ⟨sz, false, c⟩) :: O) K) : ae P x ops mq i ({ dst := some d, op := op, type := t, pos := p, after := af, guard := gd } :: l) L O K :=
 ae.stepG (.inl hno) hw fun s hs hz => ⟨_, _, ha s hs, fun _ => (ai.p9 _ _).quiet, fun z hm => (ai.p9 _ _).2 z.1 (hz z hm), _, _, ⟨hs.m, hs.t.put _ _ _, hs.sat.new sz c, fun hq => (hs.old hq).trans (ai.p9 _ _)⟩, h s.h.n⟩
theorem ae.alloc {ty : TypeId} {z : Value} {c : List Value} (hw : Met x L ops gd) (hz : zeroOf P ty = some z) (hc : z.cells.toList = c) (h : ∀ b, ae P x ops mq (i + 1) l ((d, Ptr b 0) :: L) ((b, ⟨0, false, c⟩) :: O) K) :
  ae P x ops mq i ({ dst := some d, op := .alloc ty, type := t, pos := p, after := af, guard := gd } :: l) L O K :=
 ae.fresh (V := fun b => Ptr b 0) rfl hw (fun s hs => by subst hc; simp only [eg, hz, Option.map_some, oS]) h
theorem ae.box {y : Operand} {ty : TypeId} {v : Value} {c : List Value} (hw : Met x L ops gd) (hy : dc L y = some v) (hc : v.cells.toList = c) (hk : c.all cI = true) (h : ∀ b, ae P x ops mq (i + 1) l ((d, Ptr b 0) :: L) ((b, ⟨0, false, c⟩) :: O) K) :
  ae P x ops mq i ({ dst := some d, op := .box ty y, type := t, pos := p, after := af, guard := gd } :: l) L O K :=
 ae.fresh (V := fun b => Ptr b 0) rfl hw (fun s hs => by
  subst hc
  rw [Array.all_toList] at hk
  simp only [eg, hs.t.ev hy, hk, if_true, oS]) h
theorem ae.makeSlice {y z : Operand} {ty e : TypeId} {j : Int} {sz by_ : Nat} {zv : Value} {c : List Value} {n : Nat} (hw : Met x L ops gd) (hy : dc L y = some (I j)) (hz : dc L z = some (I j)) (he : elemOf P ty = some e) (hs : cR P e = some sz) (hb : jR P e = some by_)
  (hv : zeroOf P e = some zv) (h0 : 0 ≤ j) (h1 : j < 4611686018427387904) (h2 : j * by_ ≤ 140737488355328) (h3 : zv.cells.size = sz) (h4 : 0 < sz) (hn : j.toNat = n) (hc : gJ zv.cells.toList n = c)
  (h : ∀ b, ae P x ops mq (i + 1) l ((d, Row b 0 n n) :: L) ((b, ⟨sz, false, c⟩) :: O) K) : ae P x ops mq i ({ dst := some d, op := .makeSlice ty y z, type := t, pos := p, after := af, guard := gd } :: l) L O K :=
 ae.fresh (V := fun b => Row b 0 n n) rfl hw (fun s hst => by
  subst hn hc
  simp only [eg, hst.t.ev hy, hst.t.ev hz, if_true, lW, he, hs, hb, hv]
  rw [if_pos ⟨h0, h1, h2, h3, h4⟩]) h
def jy (L : da) : List (Nat × Operand) → Option (List (Nat × Value))
 | [] => some []
 | (n, y) :: r => match dc L y, jy L r with
   | some v, some vs => some ((n, v) :: vs)
   | _, _ => none
theorem Has.parts {s : bN} (h : Has s.t L) : ∀ {ps : List (Nat × Operand)} {vs : List (Nat × Value)}, jy L ps = some vs → ps.map (fun q => (q.1, s.ev q.2)) = vs
 | [], vs, hp => by simp [jy] at hp; subst hp; rfl
 | (n, y) :: r, vs, hp => by
  unfold jy at hp
  split at hp
  · rename_i v us h1 h2
    obtain rfl := Option.some.inj hp
    rw [List.map_cons, Has.parts h h2, h.ev h1]
  · cases hp
theorem pr {s : bN} {ps : Array (Nat × Operand)} {vs : List (Nat × Value)} (h : Has s.t L) (hp : jy L ps.toList = some vs) : (ps.map fun (q : Nat × Operand) => (q.1, s.ev q.2)) = vs.toArray := by
 apply Array.toList_inj.1
 rw [Array.toList_map, h.parts hp]
theorem ae.buildSlice {ty e : TypeId} {len : Nat} {ps : Array (Nat × Operand)} {vs : List (Nat × Value)} {sz : Nat} {z : Value} {c : List Value} (hw : Met x L ops gd) (hp : jy L ps.toList = some vs) (he : elemOf P ty = some e) (hs : cR P e = some sz) (hz : zeroOf P e = some z)
  (h1 : len * sz ≤ 16777216) (h2 : 0 < sz) (h3 : z.cells.size = sz) (h4 : vs.map (·.1) = List.range len) (h5' : (vs.all fun q => Nat.beq q.2.cells.toList.length sz && q.2.cells.toList.all cI) = true) (hc : (vs.map fun q => q.2.cells.toList).flatten = c)
  (h : ∀ b, ae P x ops mq (i + 1) l ((d, Row b 0 len len) :: L) ((b, ⟨sz, false, c⟩) :: O) K) : ae P x ops mq i ({ dst := some d, op := .buildSlice ty len ps, type := t, pos := p, after := af, guard := gd } :: l) L O K :=
 ae.fresh (V := fun b => Row b 0 len len) rfl hw (fun s hst => by
  subst hc
  have h5 : (vs.all fun q => q.2.cells.size == sz && q.2.cells.all cI) = true := by
   rw [List.all_eq_true] at h5' ⊢
   intro q hq
   have := h5' q hq
   rw [← Array.all_toList]
   simp only [Bool.and_eq_true] at this ⊢
   exact ⟨beq_iff_eq.2 (Nat.eq_of_beq_eq_true this.1), this.2⟩
  have e1 : (ps.map fun (q : Nat × Operand) => (q.1, s.ev q.2)) = vs.toArray := pr hst.t hp
  simp only [eg]
  rw [show (ps.map fun (q : Nat × Operand) => match q with | (i, x) => (i, s.ev x)) = vs.toArray from e1]
  unfold pS
  simp only [he, hs, hz]
  rw [if_pos ⟨h1, h2, h3, h4, h5⟩]) h
theorem ae.build {ty : TypeId} {ps : Array (Nat × Operand)} {vs : List (Nat × Value)} {z : Value} {pl : List (Nat × Nat)} {c : List Value} (hw : Met x L ops gd) (hp : jy L ps.toList = some vs) (hz : zeroOf P ty = some z) (hpl : placesOf P ty = some pl)
  (hc : nE (pl[·]?) z.cells.toList vs = some c) (h : ae P x ops mq (i + 1) l ((d, .agg c.toArray) :: L) O K) : ae P x ops mq i ({ dst := some d, op := .build ty ps, type := t, pos := p, after := af, guard := gd } :: l) L O K :=
 ae.val (.inl rfl) hw (fun s hst => by
  have e1 : (ps.map fun (q : Nat × Operand) => (q.1, s.ev q.2)) = vs.toArray := pr hst.t hp
  simp only [eg]
  rw [show (ps.map fun (q : Nat × Operand) => match q with | (i, x) => (i, s.ev x)) = vs.toArray from e1]
  unfold pG
  simp only [hz, hpl, hc, Option.map_some]) h
theorem ae.store {y z : Operand} {ty : TypeId} (j : Nat) {b off sz : Nat} {c vs c' : List Value} {v : Value} (hw : Met x L ops gd) (hq : x.q = false) (hy : dc L y = some (Ptr b off)) (hz : dc L z = some v) (hj : O[j]? = some (b, ⟨sz, false, c⟩)) (hv : v.cells.toList = vs)
  (hs : cR P ty = some vs.length) (hl : off + vs.length ≤ c.length) (ha : vs.all cI = true) (hc : dj c off vs = c') (hcl : Clear O j mq.Z) (hO : O.set j (b, ⟨sz, false, c'⟩) = O') (h : ae P x ops mq (i + 1) l L O' K) :
  ae P x ops mq i ({ dst := none, op := .store ty y z, type := t, pos := p, after := af, guard := gd } :: l) L O K :=
 ae.stepG (.inl rfl) hw fun s hst hzz => by
  have hne := hcl.ne hst.sat hj
  obtain ⟨f, k, hb⟩ := hst.sat.at hj
  subst hv hc hO
  have hlen : v.cells.toList.length = v.cells.size := rfl
  rw [hlen] at hs hl
  rw [Array.all_toList] at ha
  refine ⟨undef, s.h.set b (.cells sz false f none (k + 1) (dj c off v.cells.toList)), ?_, fun hn => (by simp [iS] at hn), fun z hm => (by simp only [ai.set]; rw [if_neg (hne z hm)]), L, O.set j (b, ⟨sz, false, dj c off v.cells.toList⟩), ⟨hst.m, hst.t, hst.sat.set hj hb, fun hx => (by rw [hq] at hx; cases hx)⟩, h⟩
  simp only [eg, hst.t.ev hy, hst.t.ev hz]
  unfold gg
  have hb' : s.h.o b = .cells sz false f none k c := hb
  rw [hb']
  simp only
  rw [if_pos ⟨hs, hl, ha⟩]
  rfl
theorem Quiet.app {h : ai} {b sz f k : Nat} {c cn : List Value} (hb : h.o b = .cells sz false f none k c) : Quiet h ((h.set b (.cells sz false f (some h.n) k c)).new (.cells sz false f none 0 cn)) := by
 refine ⟨Nat.le_succ _, fun b' hb' => ?_⟩
 show (if b' = h.n then _ else if b' = b then _ else h.o b') = h.o b' ∨ ∃ sz0 f0 k0 c0 m, h.o b' = .cells sz0 false f0 none k0 c0 ∧ (if b' = h.n then _ else if b' = b then _ else h.o b') = .cells sz0 false f0 (some m) k0 c0 ∧ h.n ≤ m
 rw [if_neg (by omega)]
 by_cases e : b' = b
 · subst e
   right
   exact ⟨sz, f, k, c, h.n, hb, by rw [if_pos rfl], Nat.le_refl _⟩
 · left
   rw [if_neg e]
theorem ae.append {y z : Operand} {ty tz e : TypeId} (j : Nat) {b off n cp sz by_ m : Nat} {c cs c' : List Value} {v zv : Value} (hw : Met x L ops gd) (hq : x.q = false) (hy : dc L y = some (Row b off n cp)) (hz : dc L z = some v) (hr : fq P tz = true)
  (hj : O[j]? = some (b, ⟨sz, false, c⟩)) (hsrc : Src O sz v m cs) (he : elemOf P ty = some e) (hs : cR P e = some sz) (hby : jR P e = some by_) (hzv : zeroOf P e = some zv) (h3 : zv.cells.size = sz)
  (hl : off + n * sz = c.length) (hf : (n + m) * by_ ≤ 140737488355328) (h1 : 0 < sz) (h2 : 0 < by_) (hc : c.drop off ++ cs = c') (hcl : Clear O j mq.Z) {OO : Nat → an} (hO : ∀ b, O.set j (b, ⟨sz, false, c'⟩) = OO b)
  (h : ∀ b, ae P x ops mq (i + 1) l ((d, Row b 0 (n + m) (n + m)) :: L) (OO b) K) :
  ae P x ops mq i ({ dst := some d, op := .call { callee := .builtin .append, args := #[y, z], argTypes := #[ty, tz] }, type := t, pos := p, after := af, guard := gd } :: l) L O K :=
 ae.stepG (.inl rfl) hw fun s hst hzz => by
  have hne := hcl.ne hst.sat hj
  obtain ⟨f, k, hb⟩ := hst.sat.at hj
  subst hc
  refine ⟨Row s.h.n 0 (n + m) (n + m), (s.h.set b (.cells sz false f (some s.h.n) k c)).new (.cells sz false f none 0 (c.drop off ++ cs)), ?_, fun _ => Quiet.app hb, fun z hm => (by
   have := hzz z hm
   show (if z.1 = s.h.n then _ else if z.1 = b then _ else s.h.o z.1) = s.h.o z.1
   rw [if_neg (by omega), if_neg (hne z hm)]), (d, Row s.h.n 0 (n + m) (n + m)) :: L, _,
   ⟨hst.m, hst.t.put _ _ _, hst.sat.app hj hb _, fun hx => (by rw [hq] at hx; cases hx)⟩, by rw [hO]; exact h s.h.n⟩
  have hb' : s.h.o b = .cells sz false f none k c := hb
  have hfit : jL by_ (n + m) = true := by unfold jL; exact decide_eq_true hf
  simp only [eg, hst.t.ev hy, hst.t.ev hz, hr, if_true]
  unfold eY
  simp only [he, hs, hby, hzv, Option.map_some, hsrc _ hst.sat, h3, hb', ne_eq, not_true_eq_false, if_false]
  rw [if_pos ⟨trivial, hl, hfit, h1, h2⟩]
theorem ae.wx {y z : Operand} {ty tz e : TypeId} {sz by_ m : Nat} {cs : List Value} {v zv : Value} (hw : Met x L ops gd) (hy : dc L y = some (.slice none 0 0)) (hz : dc L z = some v) (hr : fq P tz = true)
  (hsrc : Src O sz v m cs) (he : elemOf P ty = some e) (hs : cR P e = some sz) (hby : jR P e = some by_) (hzv : zeroOf P e = some zv) (h3 : zv.cells.size = sz)
  (hm : 0 < m) (hf : m * by_ ≤ 140737488355328) (h1 : 0 < sz) (h2 : 0 < by_)
  (h : ∀ b, ae P x ops mq (i + 1) l ((d, Row b 0 m m) :: L) ((b, ⟨sz, false, cs⟩) :: O) K) :
  ae P x ops mq i ({ dst := some d, op := .call { callee := .builtin .append, args := #[y, z], argTypes := #[ty, tz] }, type := t, pos := p, after := af, guard := gd } :: l) L O K :=
 ae.fresh (V := fun b => Row b 0 m m) rfl hw (fun s hst => by
  have hfit : jL by_ m = true := by unfold jL; exact decide_eq_true hf
  simp only [eg, hst.t.ev hy, hst.t.ev hz, hr, if_true]
  unfold eY
  simp only [he, hs, hby, hzv, Option.map_some, hsrc _ hst.sat, h3, ne_eq, not_true_eq_false, if_false]
  rw [if_neg (by omega), if_pos ⟨hfit, h1, h2⟩]) h
theorem ae.vd {y z : Operand} {ty tz e : TypeId} {sz by_ : Nat} {cs : List Value} {v zv : Value} (hw : Met x L ops gd) (hy : dc L y = some (.slice none 0 0)) (hz : dc L z = some v) (hr : fq P tz = true)
  (hsrc : Src O sz v 0 cs) (he : elemOf P ty = some e) (hs : cR P e = some sz) (hby : jR P e = some by_) (hzv : zeroOf P e = some zv) (h3 : zv.cells.size = sz)
  (h : ae P x ops mq (i + 1) l ((d, .slice none 0 0) :: L) O K) :
  ae P x ops mq i ({ dst := some d, op := .call { callee := .builtin .append, args := #[y, z], argTypes := #[ty, tz] }, type := t, pos := p, after := af, guard := gd } :: l) L O K :=
 ae.val (.inl rfl) hw (fun s hst => by
  simp only [eg, hst.t.ev hy, hst.t.ev hz, hr, if_true]
  unfold eY
  simp only [he, hs, hby, hzv, Option.map_some, hsrc _ hst.sat, h3, ne_eq, not_true_eq_false, if_false, if_true]) h
end Go.Proofs.YthekokdpplobhaaGreat.Eng
set_option linter.unusedVariables false
set_option linter.unusedSimpArgs false
namespace Go.Proofs.YthekokdpplobhaaGreat.Eng
def nth {α : Type} [Inhabited α] (l : List α) (i : Nat) : α := l.getD i default
theorem dq {α : Type} [Inhabited α] {l : List α} {i : Nat} (h : i < l.length) : l[i]? = some (nth l i) := by
 unfold nth
 rw [List.getD_eq_getElem?_getD, List.getElem?_eq_getElem h]
 rfl
theorem dx {α : Type} [Inhabited α] {l : List α} {i : Nat} (h : i < l.length) : nth l i = l[i] := by
 unfold nth
 rw [List.getD_eq_getElem?_getD, List.getElem?_eq_getElem h]
 rfl
theorem dK {α : Type} [Inhabited α] {l : List α} {i : Nat} (h : i < l.length) : nth l i ∈ l := by rw [dx h]; exact List.getElem_mem h
theorem bB {α : Type} [Inhabited α] (V : α → Value) (l : List α) (k : Nat) (h : k < l.length) : (l.map V)[k]? = some (V (nth l k)) := by
 rw [List.getElem?_map, dq h]; rfl
theorem gh {α : Type} (V : α → Value) (l : List α) (k : Nat) (a : α) (h : k < l.length) : dj (l.map V) k [V a] = (l.set k a).map V := by
 unfold dj
 rw [List.map_set, List.set_eq_take_append_cons_drop, if_pos (by simpa using h)]
 simp
theorem oH {α : Type} (V : α → Value) (a : α) (n : Nat) : gJ [V a] n = (List.replicate n a).map V := by
 induction n with
 | zero => rfl
 | succ n ih => simp only [gJ, ih, List.replicate_succ, List.map_cons, List.cons_append, List.nil_append]
def flat {α : Type} (E : α → List Value) (l : List α) : List Value := (l.map E).flatten
theorem qR {α : Type} {E : α → List Value} {n : Nat} (hE : ∀ a, (E a).length = n) (l : List α) : (flat E l).length = l.length * n := by
 unfold flat
 induction l with
 | nil => simp
 | cons a l ih => rw [List.map_cons, List.flatten_cons, List.length_append, hE, ih, List.length_cons, Nat.succ_mul]; omega
theorem oU {α : Type} {E : α → List Value} {n : Nat} (hE : ∀ a, (E a).length = n) (l : List α) (k : Nat) : (flat E l).drop (k * n) = flat E (l.drop k) := by
 unfold flat
 induction l generalizing k with
 | nil => simp
 | cons a l ih =>
  cases k with
  | zero => simp
  | succ k =>
   rw [List.map_cons, List.flatten_cons, List.drop_append, hE]
   have e1 : (E a).drop ((k + 1) * n) = [] := List.drop_eq_nil_of_le (by rw [hE, Nat.succ_mul]; omega)
   have e2 : (k + 1) * n - n = k * n := by rw [Nat.succ_mul]; omega
   rw [e1, e2, List.nil_append, ih]
   simp
theorem pQ {α : Type} [Inhabited α] {E : α → List Value} {n : Nat} (hE : ∀ a, (E a).length = n) (l : List α) (k : Nat) (h : k < l.length) : mg (flat E l) (k * n) n = some (E (nth l k)) := by
 unfold mg
 rw [qR hE, oU hE]
 have h1 : (k + 1) * n ≤ l.length * n := Nat.mul_le_mul_right _ h
 rw [Nat.succ_mul] at h1
 rw [if_pos h1, List.drop_eq_getElem_cons h, dx h]
 unfold flat
 rw [List.map_cons, List.flatten_cons, List.take_append, hE, Nat.sub_self, List.take_zero, List.append_nil, List.take_of_length_le (Nat.le_of_eq (hE _))]
theorem uu {α : Type} [Inhabited α] {E : α → List Value} {n : Nat} (hE : ∀ a, (E a).length = n) (l : List α) (k j : Nat) (h : k < l.length) (hj : j < n) : (flat E l)[k * n + j]? = (E (nth l k))[j]? := by
 have e : (flat E l)[k * n + j]? = ((flat E l).drop (k * n))[j]? := by rw [List.getElem?_drop]
 rw [e, oU hE, List.drop_eq_getElem_cons h, dx h]
 unfold flat
 rw [List.map_cons, List.flatten_cons, List.getElem?_append_left (by rw [hE]; exact hj)]
theorem nH {a b : Int} (h1 : -9223372036854775808 ≤ a + b) (h2 : a + b ≤ 9223372036854775807) : kT .add .i64 a b = some (I (a + b)) := by
 show some (Value.int .i64 (IntKind.wrap .i64 (a + b))) = _
 rw [wrap_i64 h1 h2]
theorem nD {a b : Int} (h1 : -9223372036854775808 ≤ a - b) (h2 : a - b ≤ 9223372036854775807) : kT .sub .i64 a b = some (I (a - b)) := by
 show some (Value.int .i64 (IntKind.wrap .i64 (a - b))) = _
 rw [wrap_i64 h1 h2]
theorem u7 {a b : Int} (h1 : -9223372036854775808 ≤ a * b) (h2 : a * b ≤ 9223372036854775807) : kT .mul .i64 a b = some (I (a * b)) := by
 show some (Value.int .i64 (IntKind.wrap .i64 (a * b))) = _
 rw [wrap_i64 h1 h2]
end Go.Proofs.YthekokdpplobhaaGreat.Eng
set_option linter.unusedVariables false
set_option linter.unusedSimpArgs false
namespace Go.Proofs.YthekokdpplobhaaGreat.Eng
variable {P : Program} {x : Cx} {L L' : da} {O O' : an} {ops : Array Oper} {mq : Mk} {i : Nat} {l : List Oper} {K : bN → Prop}
  {t u : TypeId} {p : String} {af : Array Edge} {gd : Option (Nat × Bool)} {d : Tmp}
theorem Sat.tail {h : ai} {q : Nat × gl} (hs : Sat h (q :: O)) : Sat h O :=
 ⟨(List.nodup_cons.1 hs.nd).2, fun r hr => hs.is r (List.mem_cons_of_mem _ hr), hs.wf⟩
theorem Src.cons {q : Nat × gl} {sz n : Nat} {v : Value} {cs : List Value} (h : Src O sz v n cs) : Src (q :: O) sz v n cs := fun g hg => h g hg.tail
theorem aU.cons {q : Nat × gl} {b : Nat} {y : gl} (h : aU O b y) : aU (q :: O) b y := fun g hg => h g hg.tail
theorem Sat.dY {h : ai} {N : an} (hs : Sat h (N ++ O)) : Sat h O := by
 induction N with
 | nil => exact hs
 | cons q N ih => exact ih hs.tail
theorem Src.app {N : an} {sz n : Nat} {v : Value} {cs : List Value} (h : Src O sz v n cs) : Src (N ++ O) sz v n cs := fun g hg => h g hg.dY
def ji (a : Option Addr) (k : Nat) : Value := match a with
 | some ⟨b, off, none⟩ => .pointer (some ⟨b, off + k, none⟩)
 | _ => undef
theorem mF {h : ai} {sz : Nat} {a : Option Addr} {n c m : Nat} {cs : List Value} (hs : iX h sz (.slice a n c) = some (m, cs)) :
  m = n ∧ ((a = none ∧ n = 0 ∧ cs = []) ∨ ∃ b off cc, a = some ⟨b, off, none⟩ ∧ h.rd b = some cc ∧ off + n * sz ≤ cc.length ∧ cs = (cc.drop off).take (n * sz)) := by
 cases a with
 | none =>
  cases n with
  | zero =>
   cases c with
   | zero =>
    simp only [iX, Option.some.injEq, Prod.mk.injEq] at hs
    exact ⟨hs.1.symm, .inl ⟨rfl, rfl, hs.2.symm⟩⟩
   | succ c => simp [iX] at hs
  | succ n => simp [iX] at hs
 | some ad =>
  obtain ⟨b, off, sp⟩ := ad
  cases sp with
  | some q => simp [iX] at hs
  | none =>
   unfold iX at hs
   simp only at hs
   split at hs
   · rename_i cc hcc
     split at hs
     · rename_i hl
       simp only [Option.some.injEq, Prod.mk.injEq] at hs
       exact ⟨hs.1.symm, .inr ⟨b, off, cc, rfl, hcc, hl, hs.2.symm⟩⟩
     · cases hs
   · cases hs
theorem ae.xZ {y z : Operand} {ty e : TypeId} {a : Option Addr} {n c m sz : Nat} {cs : List Value} {k : IntKind} {j : Int} {off' : Nat} (hw : Met x L ops gd) (hy : dc L y = some (.slice a n c)) (hz : dc L z = some (.int k j))
  (he : elemOf P ty = some e) (hs : cR P e = some sz) (hsrc : Src O sz (.slice a n c) m cs) (h0 : 0 ≤ j) (h1 : j < n) (ho : j.toNat * sz = off') (h : ae P x ops mq (i + 1) l ((d, ji a off') :: L) O K) :
  ae P x ops mq i ({ dst := some d, op := .indexAddr ty y z, type := t, pos := p, after := af, guard := gd } :: l) L O K :=
 ae.val (.inl rfl) hw (fun s hst => by
  subst ho
  obtain ⟨_, ⟨_, h2, _⟩ | ⟨b, off, cc, ha, _⟩⟩ := mF (hsrc _ hst.sat)
  · omega
  · subst ha
    simp only [eg, hst.t.ev hy, hst.t.ev hz, oj, he, hs, Option.bind_some]
    rw [if_pos ⟨h0, h1⟩]
    rfl) h
theorem ae.xA {y : Operand} {ty : TypeId} {a : Option Addr} {n c m sz k f g0 : Nat} {cs : List Value} {fs : Array Field} {g : Field} {off' : Nat} (hw : Met x L ops gd) (hy : dc L y = some (ji a k)) (hu : P.underlying ty = some (.struct fs)) (hg : fs[f]? = some g)
  (hs : cR P g.type = some (g0 + 1)) (hsrc : Src O sz (.slice a n c) m cs) (hn : k < cs.length) (ho : k + g.offset = off') (h : ae P x ops mq (i + 1) l ((d, ji a off') :: L) O K) :
  ae P x ops mq i ({ dst := some d, op := .fieldAddr ty y f, type := t, pos := p, after := af, guard := gd } :: l) L O K :=
 ae.val (.inl rfl) hw (fun s hst => by
  subst ho
  obtain ⟨_, ⟨_, _, h2⟩ | ⟨b, off, cc, ha, _⟩⟩ := mF (hsrc _ hst.sat)
  · subst h2; simp at hn
  · subst ha
    have hy' : s.ev y = Ptr b (off + k) := hst.t.ev hy
    simp only [eg, hy', ny, hu, hg, hs, ji, Nat.add_assoc]
    rfl) h
theorem ae.xP {y : Operand} {ty : TypeId} {a : Option Addr} {n c m sz k : Nat} {cs : List Value} {v : Value} (hlz : mq.lz i = false) (hw : Met x L ops gd) (hy : dc L y = some (ji a k)) (hsrc : Src O sz (.slice a n c) m cs) (ht : de P ty = some false) (hv : cs[k]? = some v)
  (h : ae P x ops mq (i + 1) l ((d, v) :: L) O K) : ae P x ops mq i ({ dst := some d, op := .load ty y, type := t, pos := p, after := af, guard := gd } :: l) L O K :=
 ae.val (.inr hlz) hw (fun s hst => by
  obtain ⟨_, ⟨_, _, h2⟩ | ⟨b, off, cc, ha, hrd, hl, hcs⟩⟩ := mF (hsrc _ hst.sat)
  · subst h2; simp at hv
  · subst ha hcs
    have hy' : s.ev y = Ptr b (off + k) := hst.t.ev hy
    rw [List.getElem?_take] at hv
    split at hv
    · rw [List.getElem?_drop] at hv
      simp only [eg, hy', gN, hrd, ht, hv]
      rfl
    · cases hv) h
end Go.Proofs.YthekokdpplobhaaGreat.Eng
set_option linter.unusedVariables false
set_option linter.unusedSimpArgs false
namespace Go.Proofs.YthekokdpplobhaaGreat.Eng
variable {P : Program} {x : Cx} {L L' : da} {O O' : an} {ops : Array Oper} {mq : Mk} {i : Nat} {l : List Oper} {K : bN → Prop}
  {t u : TypeId} {p : String} {af : Array Edge} {gd : Option (Nat × Bool)} {d : Tmp}
def Grow (sz : Nat) (a : Option Addr) (n c : Nat) (cs : List Value) (G : an) : Prop :=
 (a = none ∧ n = 0 ∧ c = 0 ∧ cs = [] ∧ G = []) ∨ (∃ b, a = some ⟨b, 0, none⟩ ∧ G = [(b, ⟨sz, false, cs⟩)] ∧ cs.length = n * sz)
theorem Grow.nil {sz : Nat} : Grow sz none 0 0 [] [] := .inl ⟨rfl, rfl, rfl, rfl, rfl⟩
theorem Grow.row {sz b n c : Nat} {cs : List Value} (h : cs.length = n * sz) : Grow sz (some ⟨b, 0, none⟩) n c cs [(b, ⟨sz, false, cs⟩)] := .inr ⟨b, rfl, rfl, h⟩
theorem Grow.src {sz : Nat} {a : Option Addr} {n c : Nat} {cs : List Value} {G R : an} (hg : Grow sz a n c cs G) : Src (G ++ R) sz (.slice a n c) n cs := by
 rcases hg with ⟨rfl, rfl, rfl, rfl, rfl⟩ | ⟨b, rfl, rfl, hl⟩
 · exact Src.nil
 · refine Src.of (aU.at 0 rfl) ?_ ?_
   · show 0 + n * sz ≤ cs.length
     omega
   · show (cs.drop 0).take (n * sz) = cs
     rw [List.drop_zero, List.take_of_length_le (by omega)]
theorem Grow.wH {sz : Nat} {a : Option Addr} {n c : Nat} {cs : List Value} {G : an} (hg : Grow sz a n c cs G) : Src G sz (.slice a n c) n cs := by
 have := hg.src (R := [])
 rw [List.append_nil] at this
 exact this
theorem Sat.swap {h : ai} {G A R : an} (hs : Sat h (G ++ (A ++ R))) : Sat h (A ++ (G ++ R)) := by
 refine hs.perm ?_
 rw [← List.append_assoc, ← List.append_assoc]
 exact (List.perm_append_comm (l₁ := G) (l₂ := A)).append_right R
theorem St.swap {s : bN} {G R : an} (A : an) (hs : St x L (G ++ (A ++ R)) s) : St x L (A ++ (G ++ R)) s := ⟨hs.m, hs.t, hs.sat.swap, hs.old⟩
theorem ae.wk {y z : Operand} {ty tz e : TypeId} {a : Option Addr} {n c sz by_ m : Nat} {cs new : List Value} {v zv : Value} {G : an} (A : an) {R : an} (hw : Met x L ops gd) (hq : x.q = false) (hy : dc L y = some (.slice a n c)) (hz : dc L z = some v) (hr : fq P tz = true)
  (hcl : mq.Z = []) (hO : O = A ++ (G ++ R)) (hg : Grow sz a n c cs G) (hsrc : Src O sz v m new) (he : elemOf P ty = some e) (hs : cR P e = some sz) (hby : jR P e = some by_) (hzv : zeroOf P e = some zv) (h3 : zv.cells.size = sz)
  (hf : (n + m) * by_ ≤ 140737488355328) (h1 : 0 < sz) (h2 : 0 < by_) (hm : new.length = m * sz)
  (h : ∀ a' c' G', Grow sz a' (n + m) c' (cs ++ new) G' → ae P x ops mq (i + 1) l ((d, .slice a' (n + m) c') :: L) (A ++ (G' ++ R)) K) :
  ae P x ops mq i ({ dst := some d, op := .call { callee := .builtin .append, args := #[y, z], argTypes := #[ty, tz] }, type := t, pos := p, after := af, guard := gd } :: l) L O K := by
 have hfit : jL by_ (n + m) = true := by unfold jL; exact decide_eq_true hf
 rcases hg with ⟨rfl, rfl, rfl, rfl, rfl⟩ | ⟨b, rfl, rfl, hl⟩
 · rcases Nat.eq_zero_or_pos m with hm0 | hm0
   · subst hm0
     have hnew : new = [] := List.length_eq_zero_iff.1 (by rw [hm, Nat.zero_mul])
     subst hnew
     refine ae.vd hw hy hz hr hsrc he hs hby hzv h3 ?_
     rw [hO]
     exact h none 0 [] (.inl ⟨rfl, rfl, rfl, rfl, rfl⟩)
   · refine ae.wx hw hy hz hr hsrc he hs hby hzv h3 hm0 (by rw [Nat.zero_add] at hf; exact hf) h1 h2 fun b => ?_
     have := h (some ⟨b, 0, none⟩) m [(b, ⟨sz, false, new⟩)] (.inr ⟨b, rfl, rfl, by rw [Nat.zero_add]; exact hm⟩)
     simp only [Nat.zero_add, List.nil_append] at this
     rw [hO]
     refine ae.of (fun s hs => ?_) this
     exact St.swap (G := [(b, ⟨sz, false, new⟩)]) A hs
 · refine ae.stepG (.inl rfl) hw fun s hst hzz => ?_
   have hj : O[A.length]? = some (b, ⟨sz, false, cs⟩) := by rw [hO, List.getElem?_append_right (Nat.le_refl _), Nat.sub_self]; rfl
   obtain ⟨f, k, hb⟩ := hst.sat.at hj
   have hb' : s.h.o b = .cells sz false f none k cs := hb
   have hset : O.set A.length (s.h.n, ⟨sz, false, cs ++ new⟩) = A ++ ([(s.h.n, ⟨sz, false, cs ++ new⟩)] ++ R) := by
    rw [hO, List.set_append_right _ _ (Nat.le_refl _), Nat.sub_self]; rfl
   refine ⟨Row s.h.n 0 (n + m) (n + m), (s.h.set b (.cells sz false f (some s.h.n) k cs)).new (.cells sz false f none 0 (cs ++ new)), ?_, fun _ => Quiet.app hb', fun z hm => (by rw [hcl] at hm; simp at hm), (d, Row s.h.n 0 (n + m) (n + m)) :: L, _,
    ⟨hst.m, hst.t.put _ _ _, hst.sat.app hj hb _, fun hx => (by rw [hq] at hx; cases hx)⟩, ?_⟩
   · simp only [eg, hst.t.ev hy, hst.t.ev hz, hr, if_true]
     unfold eY
     simp only [he, hs, hby, hzv, Option.map_some, hsrc _ hst.sat, h3, hb', ne_eq, not_true_eq_false, if_false]
     rw [if_pos ⟨trivial, by omega, hfit, h1, h2⟩, List.drop_zero]
   · rw [hset]
     exact h (some ⟨s.h.n, 0, none⟩) (n + m) [(s.h.n, ⟨sz, false, cs ++ new⟩)] (.inr ⟨s.h.n, rfl, rfl, by rw [List.length_append, hl, hm, Nat.add_mul]⟩)
theorem rB (n : Nat) : ((n : Int) + 1).toNat = n + 1 := by omega
theorem aU.app {N : an} {b : Nat} {y : gl} (h : aU O b y) : aU (N ++ O) b y := fun g hg => h g hg.dY
def sE (L : da) : List Operand → Option (List Value)
 | [] => some []
 | y :: ys => match dc L y, sE L ys with
   | some v, some vs => some (v :: vs)
   | _, _ => none
theorem Has.sE {s : bN} (h : Has s.t L) : ∀ {ys : List Operand} {vs : List Value}, Eng.sE L ys = some vs → ys.map s.ev = vs
 | [], vs, hp => by simp [Eng.sE] at hp; subst hp; rfl
 | y :: r, vs, hp => by
  unfold Eng.sE at hp
  split at hp
  · rename_i v us h1 h2
    obtain rfl := Option.some.inj hp
    rw [List.map_cons, Has.sE h h2, h.ev h1]
  · cases hp
theorem ae.makeFunc {f : FuncId} {aas cs : Array Operand} {vs us : List Value} (hw : Met x L ops gd) (ha : sE L aas.toList = some vs) (hc : sE L cs.toList = some us) (h : ae P x ops mq (i + 1) l ((d, .func (.func f) vs.toArray us.toArray) :: L) O K) :
  ae P x ops mq i ({ dst := some d, op := .makeFunc (.func f) aas cs, type := t, pos := p, after := af, guard := gd } :: l) L O K :=
 ae.val (.inl rfl) hw (fun s hs => by
  have e1 : aas.map s.ev = vs.toArray := by apply Array.toList_inj.1; rw [Array.toList_map, hs.t.sE ha]
  have e2 : cs.map s.ev = us.toArray := by apply Array.toList_inj.1; rw [Array.toList_map, hs.t.sE hc]
  simp only [eg, e1, e2]) h
def lX (P : Program) (L : da) (O : an) : List ResultVar → List Value → Prop
 | [], [] => True
 | .tmp t :: rs, v :: vs => jQ L t = some v ∧ lX P L O rs vs
 | .cell a t :: rs, v :: vs => (∃ b off, jQ L a = some (Ptr b off) ∧ ∀ h, Sat h O → gN P h t b off = some v) ∧ lX P L O rs vs
 | _, _ => False
theorem lX.ok {s : bN} (hs : St x L O s) : ∀ {rs : List ResultVar} {vs : List Value}, lX P L O rs vs → rs.mapM (oQ P s) = some vs
 | [], [], _ => rfl
 | .tmp t :: rs, v :: vs, h => by
  rw [List.mapM_cons, lX.ok hs h.2]
  show (some (s.t t)).bind _ = _
  rw [hs.t t v h.1]; rfl
 | .cell a t :: rs, v :: vs, h => by
  obtain ⟨⟨b, off, h1, h2⟩, h3⟩ := h
  rw [List.mapM_cons, lX.ok hs h3]
  have : oQ P s (.cell a t) = some v := by
   unfold oQ
   simp only [hs.t a _ h1]
   exact h2 _ hs.sat
  rw [this]; rfl
 | [], _ :: _, h => h.elim
 | .tmp _ :: _, [], h => h.elim
 | .cell _ _ :: _, [], h => h.elim
theorem Fin.results {fn : Func} {Post : Value → an → Prop} {rs : List ResultVar} {vs : List Value} {e : Exit} (he : e = .normal ∨ e = .ret) (hr : fn.results.toList = rs) (hv : lX P L O rs vs) (hO : ∀ h, Sat h O → Sat h O') (hp : Post (eB vs) O') :
  Fin x L O e (rv P fn x Post) := by
 intro s hs
 have : ∃ vs O', cr P fn s = some vs ∧ Post (eB vs) O' ∧ Sat s.h O' ∧ (x.q = true → Old x.h0 s.h) :=
  ⟨vs, O', by unfold cr; rw [hr]; exact hv.ok hs, hp, hO _ hs.sat, hs.old⟩
 rcases he with rfl | rfl <;> exact this
theorem qx {b off : Nat} {e : gl} {v : Value} (hk : aU O b e) (ht : de P t = some false) (hv : e.c[off]? = some v) : ∀ h, Sat h O → gN P h t b off = some v := by
 intro h hh
 unfold gN
 simp only [(hk h hh).rd, ht, hv]
theorem Sat.told {h : ai} (is : List Nat) (n : Nat) (hnd : is.Nodup) (hlt : ∀ i ∈ is, i < n) (hO : Eng.pick O is ++ O.drop n = O') (hs : Sat h O) : Sat h O' := hO ▸ hs.pick is n hnd hlt
end Go.Proofs.YthekokdpplobhaaGreat.Eng
set_option linter.unusedVariables false
set_option linter.unusedSimpArgs false
namespace Go.Proofs.YthekokdpplobhaaGreat.Eng
variable {P : Program}
theorem pt {o : Oper} {s : bN} {v : Value} {h' : ai} (hv : eg P o s = some (v, h')) : h' = s.h ∨ (∃ sz c, h' = s.h.new (.cells sz false s.h.n none 0 c)) ∨
  (∃ b sz f k c c', s.h.o b = .cells sz false f none k c ∧ h' = s.h.set b (.cells sz false f none (k + 1) c')) ∨
  (∃ b sz f k c cn, s.h.o b = .cells sz false f none k c ∧ h' = (s.h.set b (.cells sz false f (some s.h.n) k c)).new (.cells sz false f none 0 cn)) := by
 unfold eg at hv
 simp only at hv
 have mp : ∀ {α : Type} {x : Option α} {u : α} {g : ai}, x.map (·, s.h) = some (u, g) → g = s.h := fun hx => by
  obtain ⟨_, rfl⟩ := dN hx; rfl
 split at hv
 all_goals first
  | exact .inl (mp hv)
  | (injection hv with hv; injection hv with h1 h2; exact .inl h2.symm)
  | skip
 · split at hv
   · injection hv with hv; injection hv with h1 h2; exact .inl h2.symm
   · injection hv with hv; injection hv with h1 h2; exact .inl h2.symm
   · cases hv
 · rename_i t _
   cases hz : zeroOf P t with
   | none => rw [hz] at hv; cases hv
   | some z => rw [hz] at hv; injection hv with hv; injection hv with h1 h2; exact .inr (.inl ⟨_, _, h2.symm⟩)
 · split at hv
   · injection hv with hv; injection hv with h1 h2; exact .inr (.inl ⟨_, _, h2.symm⟩)
   · cases hv
 · unfold pS at hv
   split at hv
   · split at hv
     · split at hv
       · injection hv with hv; injection hv with h1 h2; exact .inr (.inl ⟨_, _, h2.symm⟩)
       · cases hv
     · cases hv
   · cases hv
 · split at hv
   · exact .inl (mp hv)
   · cases hv
 · rename_i t x y _
   split at hv
   · rename_i b off _
     cases hs : gg P s.h t b off (s.ev y) with
     | none => rw [hs] at hv; cases hv
     | some g =>
      rw [hs] at hv; injection hv with hv; injection hv with h1 h2; subst h2
      unfold gg at hs
      split at hs
      · rename_i sz f k c ho
        split at hs
        · injection hs with hs; exact .inr (.inr (.inl ⟨_, _, _, _, _, _, ho, hs.symm⟩))
        · cases hs
      · cases hs
   · cases hv
 · injection hv with hv; injection hv with h1 h2; exact .inr (.inl ⟨_, _, h2.symm⟩)
 · split at hv
   · injection hv with hv; injection hv with h1 h2; exact .inl h2.symm
   · cases hv
 · split at hv
   · split at hv
     · unfold lW at hv
       split at hv
       · split at hv
         · split at hv
           · injection hv with hv; injection hv with h1 h2; exact .inr (.inl ⟨_, _, h2.symm⟩)
           · cases hv
         · cases hv
       · cases hv
     · cases hv
   · cases hv
 · split at hv
   · exact .inl (mp hv)
   · cases hv
 · split at hv
   · exact .inl (mp hv)
   · split at hv
     · unfold rI at hv
       split at hv
       · injection hv with hv; injection hv with h1 h2; exact .inr (.inl ⟨_, _, h2.symm⟩)
       · cases hv
     · exact .inl (mp hv)
 · split at hv
   · exact .inl (mp hv)
   · cases hv
 · split at hv
   · split at hv
     · unfold eY at hv
       split at hv
       · cases hv
       split at hv
       case h_2 => cases hv
       split at hv
       case h_2 => cases hv
       split at hv
       · cases hv
       split at hv
       · split at hv
         · injection hv with hv; injection hv with h1 h2; exact .inl h2.symm
         · split at hv
           · injection hv with hv; injection hv with h1 h2; exact .inr (.inl ⟨_, _, h2.symm⟩)
           · cases hv
       · split at hv
         · rename_i ho
           split at hv
           · rename_i hc
             obtain rfl := hc.1
             injection hv with hv; injection hv with h1 h2; exact .inr (.inr (.inr ⟨_, _, _, _, _, _, ho, h2.symm⟩))
           · cases hv
         · cases hv
       · cases hv
     · cases hv
   · cases hv
 all_goals cases hv
def p6 : ep → Bool
 | .cells _ true _ _ _ _ => true
 | .dead => true
 | _ => false
def dC (h h' : ai) : Prop := h.n ≤ h'.n ∧ ∀ b, b < h.n → p6 (h.o b) = true → h'.o b = h.o b
theorem dC.refl (h : ai) : dC h h := ⟨Nat.le_refl _, fun _ _ _ => rfl⟩
theorem dC.trans {a b c : ai} (h1 : dC a b) (h2 : dC b c) : dC a c := ⟨Nat.le_trans h1.1 h2.1, fun x hx hr => by
 have e := h1.2 x hx hr
 rw [h2.2 x (Nat.lt_of_lt_of_le hx h1.1) (by rw [e]; exact hr), e]⟩
theorem iL {o : Oper} {s : bN} {v : Value} {h' : ai} (hv : eg P o s = some (v, h')) : dC s.h h' := by
 rcases pt hv with rfl | ⟨sz, c, rfl⟩ | ⟨b, sz, f, k, c, c', ho, rfl⟩ | ⟨b, sz, f, k, c, cn, ho, rfl⟩
 · exact dC.refl _
 · exact ⟨Nat.le_succ _, fun x hx _ => by simp only [ai.new]; rw [if_neg (by omega)]⟩
 · refine ⟨Nat.le_refl _, fun x hx hr => ?_⟩
   simp only [ai.set]
   rw [if_neg]
   intro e
   rw [e, ho] at hr
   cases hr
 · refine ⟨Nat.le_succ _, fun x hx hr => ?_⟩
   show (if x = s.h.n then _ else if x = b then _ else s.h.o x) = s.h.o x
   rw [if_neg (by omega), if_neg]
   intro e
   rw [e, ho] at hr
   cases hr
theorem jW {h h' h2 : ai} (hs : gX h h' h2) (h1 : dC h h') : dC h h2 := by
 refine ⟨by rw [hs.n]; exact h1.1, fun x hx hr => ?_⟩
 obtain ⟨b, sz, f, k, c, cn, hb, hb', hn', h2n, h2o⟩ := hs
 rw [h2o, if_neg, if_neg (by omega)]
 · exact h1.2 x hx hr
 · intro e
   rw [e, hb] at hr
   cases hr
theorem ma.stay {h h' : ai} (hs : ma h h') : dC h h' := by
 rcases hs with rfl | ⟨sz, c, rfl⟩ | ⟨b, sz, f, k, c, c', ho, rfl⟩
 · exact dC.refl _
 · exact ⟨Nat.le_succ _, fun x hx _ => by simp only [ai.new]; rw [if_neg (by omega)]⟩
 · refine ⟨Nat.le_refl _, fun x hx hr => ?_⟩
   simp only [ai.set]
   rw [if_neg]
   intro e
   rw [e, ho] at hr
   cases hr
theorem l9 {o : Oper} {s : bN} {v : Value} {h' : ai} (hv : pK P o s = some (v, h')) : ma s.h h' := .inr (.inr (sK hv))
def yH : J → Prop
 | .code _ s _ s' => dC s.h s'.h
 | .jK _ s s' _ _ => dC s.h s'.h
 | .ops _ _ _ _ _ s s' => dC s.h s'.h
 | .call _ _ h _ h' => dC h h'
theorem fo {dr : Array Oper → (Nat → Bool) → (Nat → Bool) → Prop} {ρ : dV} {j : J} (hb : ee P dr ρ j) : yH j := by
 induction hb with
 | skip | label | exit | ret | nil => exact dC.refl _
 | region _ _ ih => exact ih
 | draw _ _ _ ih => exact ih
 | kV _ _ ih1 ih2 => exact dC.trans ih1 ih2
 | kZ _ _ ih => exact ih
 | jz _ _ _ ih => exact ih
 | jd _ _ _ ih => exact ih
 | gP _ _ ih => exact ih
 | gR _ ih => exact ih
 | jk _ _ ih1 ih2 => exact dC.trans ih1 ih2
 | jn _ _ ih => exact ih
 | scope _ ih => exact ih
 | op _ _ ha _ _ _ _ ih =>
  have h2 : dC _ _ := ih
  rw [bk] at h2
  exact (iL ha).trans h2
 | l8 _ _ ha _ _ _ _ ih =>
  have h2 : dC _ _ := ih
  rw [bk] at h2
  exact (l9 ha).stay.trans h2
 | jm _ _ ha hs _ _ _ _ ih =>
  have h2 : dC _ _ := ih
  rw [bk] at h2
  exact (jW hs (iL ha)).trans h2
 | jY _ _ _ _ _ _ _ _ _ ih | iy _ _ _ _ _ _ _ _ _ ih =>
  have h2 : dC _ _ := ih
  rw [bk] at h2
  exact h2
 | jH _ _ _ _ _ _ _ _ ih1 ih2 =>
  have h2 : dC _ _ := ih2
  rw [bk] at h2
  exact dC.trans ih1 h2
 | iH _ _ _ ih =>
  have h2 : dC _ _ := ih
  rw [bk] at h2
  exact h2
 | call _ _ _ _ _ ih => exact ih
 | direct hd => exact hd.1.stay
 | pF _ _ ih1 ih2 => exact dC.trans ih1 ih2
 | mh _ _ _ _ _ _ _ _ _ _ _ ih1 ih2 => exact dC.trans ih1 ih2
 | j8 _ _ _ _ _ _ _ _ _ _ ih1 ih2 => exact dC.trans ih1 ih2
 | @rangeFunc ρ g ps assign body s gf lb v h' _ _ _ _ _ _ ih =>
  have h2 : dC s.h.fm h' := ih
  exact ⟨Nat.le_trans (Nat.le_succ _) h2.1, fun b hb hr => h2.2 b (Nat.lt_succ_of_lt hb) hr⟩
 | gQ _ _ _ _ _ _ _ _ _ _ _ _ ih1 ih2 ih3 =>
  have h3 : dC _ _ := ih3
  rw [bk] at h3
  exact dC.trans ih1 (dC.trans ih2 h3)
variable {F : Nat → Bool} {h h' : ai}
theorem eP {b sz ro f st k c} (ho : h.o b = .cells sz ro f st k c) : ∃ ro', (h.un F).o b = .cells sz ro' f st k c := by
 simp only [ai.un, ho]
 cases F b
 · exact ⟨ro, rfl⟩
 · exact ⟨false, rfl⟩
theorem gI {b sz f st k c} (ho : h.o b = .cells sz false f st k c) : (h.un F).o b = .cells sz false f st k c := by
 simp only [ai.un, ho]
 cases F b <;> rfl
theorem nt {b} (ho : h.o b = .dead) : (h.un F).o b = .dead := by
 simp only [ai.un, ho]
 cases F b <;> rfl
theorem jl {b} (he : h'.o b = h.o b) : (h'.un F).o b = (h.un F).o b := by simp only [ai.un, he]
theorem vz {b} (he : dh (h'.o b) (h.o b)) : dh ((h'.un F).o b) ((h.un F).o b) := by
 have key : ∀ (h : ai) sz c, (∃ ro f k, (h.un F).o b = .cells sz ro f none k c) ↔ ∃ ro f k, h.o b = .cells sz ro f none k c := fun h sz c => by
  cases ho : h.o b with
  | dead =>
   rw [nt ho]
  | cells sz' ro' f' st' k' c' =>
   obtain ⟨ro2, e⟩ := eP (F := F) ho
   rw [e]
   constructor
   · rintro ⟨_, _, _, q⟩
     injection q with q1 _ _ q4 _ q6
     exact ⟨_, _, _, by rw [q1, q4, q6]⟩
   · rintro ⟨_, _, _, q⟩
     injection q with q1 _ _ q4 _ q6
     exact ⟨_, _, _, by rw [q1, q4, q6]⟩
 exact fun sz c => (key h' sz c).trans ((he sz c).trans (key h sz c).symm)
theorem vn (b : Nat) : (h.un F).rd b = h.rd b := by
 unfold ai.rd
 cases ho : h.o b with
 | dead => rw [nt ho]
 | cells sz ro f st k c =>
  obtain ⟨ro', e⟩ := eP (F := F) ho
  rw [e]
  cases st with
  | none => rfl
  | some m =>
   simp only
   cases hm : h.o m with
   | dead => rw [nt hm]
   | cells fk ro2 f2 st2 k2 c2 =>
    obtain ⟨ro3, e2⟩ := eP (F := F) hm
    rw [e2]
    cases st2 <;> cases k2 <;> rfl
theorem jF {sz f st k c} : (h.new (.cells sz false f st k c)).un F = (h.un F).new (.cells sz false f st k c) := by
 unfold ai.un ai.new
 simp only [ai.mk.injEq, true_and]
 funext b
 by_cases e : b = h.n
 · rw [if_pos e, if_pos e]; cases F b <;> rfl
 · rw [if_neg e, if_neg e]
theorem mI {b sz f st k c} : (h.set b (.cells sz false f st k c)).un F = (h.un F).set b (.cells sz false f st k c) := by
 unfold ai.un ai.set
 simp only [ai.mk.injEq, true_and]
 funext x
 by_cases e : x = b
 · rw [if_pos e, if_pos e]; cases F x <;> rfl
 · rw [if_neg e, if_neg e]
theorem sT {t : TypeId} {b off : Nat} : gN P (h.un F) t b off = gN P h t b off := by unfold gN; rw [vn]
theorem va {sz : Nat} {v : Value} : iX (h.un F) sz v = iX h sz v := by
 unfold iX
 split <;> first | rfl | rw [vn]
theorem xH {v : Value} : ry (h.un F) v = ry h v := by
 unfold ry
 split
 · rw [va]
 · rfl
theorem vm {t : TypeId} {x : Value} {lo hi : Option Value} : jx P (h.un F) t x lo hi = jx P h t x lo hi := by
 unfold jx
 split
 · rfl
 · rfl
 · rename_i b off n c
   cases ho : h.o b with
   | dead => rw [nt ho]
   | cells sz ro f st k c =>
    obtain ⟨ro', e⟩ := eP (F := F) ho
    rw [e]
    cases (elemOf P t).bind (cR P) <;> cases dJ lo 0 <;> cases dJ hi n <;> rfl
 · rfl
theorem uW {t : TypeId} {b off : Nat} {v : Value} {g : ai} (hs : gg P h t b off v = some g) : gg P (h.un F) t b off v = some (g.un F) := by
 unfold gg at hs
 split at hs
 · rename_i sz f k c ho
   split at hs
   · rename_i hc
     injection hs with hs
     unfold gg
     rw [gI ho]
     simp only
     rw [if_pos hc, ← hs, mI]
   · cases hs
 · cases hs
theorem uj {t : TypeId} {s x v : Value} {g : ai} (hs : eY P h t s x = some (v, g)) : eY P (h.un F) t s x = some (v, g.un F) := by
 unfold eY at hs ⊢
 simp only [va]
 split at hs
 · cases hs
 split at hs
 case h_2 => cases hs
 split at hs
 case h_2 => cases hs
 split at hs
 · cases hs
 rename_i hz
 simp only [if_neg hz]
 split at hs
 · split at hs
   · rename_i h0
     rw [if_pos h0]
     injection hs with hs; injection hs with h1 h2
     rw [h1, h2]
   · rename_i h0
     rw [if_neg h0]
     split at hs
     · rename_i hc
       rw [if_pos hc]
       injection hs with hs; injection hs with h1 h2
       rw [← h1, ← h2, jF]
       rfl
     · cases hs
 · split at hs
   · rename_i ho
     split at hs
     · rename_i hc
       rw [gI ho]
       simp only
       rw [if_pos hc]
       injection hs with hs; injection hs with h1 h2
       rw [← h1, ← h2, jF, mI]
       rfl
     · cases hs
   · cases hs
 · cases hs
theorem wu {t : TypeId} {n v : Value} {g : ai} (hs : lW P h t n = some (v, g)) : lW P (h.un F) t n = some (v, g.un F) := by
 unfold lW at hs ⊢
 split at hs
 · split at hs
   · split at hs
     · rename_i hc
       rw [if_pos hc]
       injection hs with hs; injection hs with h1 h2
       rw [← h1, ← h2, jF]
       rfl
     · cases hs
   · cases hs
 · cases hs
theorem yn {t : TypeId} {len : Nat} {ps : Array (Nat × Value)} {v : Value} {g : ai} (hs : pS P h t len ps = some (v, g)) : pS P (h.un F) t len ps = some (v, g.un F) := by
 unfold pS at hs ⊢
 split at hs
 · split at hs
   · split at hs
     · rename_i hc
       rw [if_pos hc]
       injection hs with hs; injection hs with h1 h2
       rw [← h1, ← h2, jF]
       rfl
     · cases hs
   · cases hs
 · cases hs
theorem sQ {cs : Array Value} : oS (h.un F) cs = ((oS h cs).1, (oS h cs).2.un F) := by
 unfold oS
 simp only [jF]
 rfl
def bN.un (F : Nat → Bool) (s : bN) : bN := { s with h := s.h.un F }
theorem kW (s : bN) : (s.un F).ev = s.ev := kG s _
theorem kl (s : bN) (dst : Option Tmp) (v : Value) (g : ai) : (s.put dst v g).un F = (s.un F).put dst v (g.un F) := by cases dst <;> rfl
theorem tO {t : TypeId} {x i : Value} {ok : Bool} : jf P (h.un F) t x i ok = jf P h t x i ok := by
 unfold jf
 simp only [vn]
theorem p8 {o : Oper} {s : bN} {v : Value} (hv : eg P o s = some (v, h')) : eg P o (s.un F) = some (v, h'.un F) := by
 have mp : ∀ {α : Type} {x : Option α} {u : α} {g : ai}, x.map (·, s.h) = some (u, g) → x.map (·, s.h.un F) = some (u, g.un F) := fun hx => by
  obtain ⟨h1, h2⟩ := dN hx; subst h2; rw [h1]; rfl
 obtain ⟨dst, op, type, pos, after, guard⟩ := o
 unfold eg at hv ⊢
 simp only [kW] at hv ⊢
 have hh : (s.un F).h = s.h.un F := rfl
 rw [hh]
 cases op with
 | call c =>
  obtain ⟨callee, args, argTypes⟩ := c
  cases callee with
  | builtin b =>
   cases b <;> first
    | exact mp hv
    | (simp only at hv ⊢
       split at hv
       · first
         | exact mp hv
         | (split at hv
            · rename_i hc
              simp only [if_pos hc]
              exact uj hv
            · cases hv)
       · cases hv)
  | _ => first | exact mp hv | cases hv
 | makeFunc fn first captured =>
  cases fn <;> first
   | exact mp hv
   | (injection hv with hv; injection hv with h1 h2; subst h1 h2; rfl)
 | pick c a b => simp only at hv ⊢; split at hv <;> first | (injection hv with hv; injection hv with h1 h2; subst h1 h2; rfl) | cases hv
 | nilCheck x => simp only at hv ⊢; split at hv <;> first | (injection hv with hv; injection hv with h1 h2; subst h1 h2; rfl) | cases hv
 | extract x i => simp only at hv ⊢; split at hv <;> first | exact mp hv | cases hv
 | convert t u x =>
  simp only at hv ⊢
  split at hv
  · rename_i hc; rw [if_pos hc, xH]; exact mp hv
  · rename_i hc
    split at hv
    · rename_i hc2
      rw [if_neg hc, if_pos hc2]
      unfold rI at hv ⊢
      split at hv
      · injection hv with hv; injection hv with h1 h2
        rw [← h1, ← h2, jF]
        rfl
      · cases hv
    · rename_i hc2; rw [if_neg hc, if_neg hc2]; exact mp hv
 | move x => injection hv with hv; injection hv with h1 h2; subst h1 h2; rfl
 | assign x => injection hv with hv; injection hv with h1 h2; subst h1 h2; rfl
 | alloc t =>
  simp only at hv ⊢
  obtain ⟨z, hz, e⟩ := Option.map_eq_some_iff.1 hv
  rw [hz, Option.map_some, sQ, e]
 | box t x =>
  simp only at hv ⊢
  split at hv
  · rename_i hc
    rw [if_pos hc, sQ]
    injection hv with hv
    rw [hv]
  · cases hv
 | buildSlice t len parts => exact yn hv
 | load t x =>
  simp only at hv ⊢
  split at hv
  · rw [sT]; exact mp hv
  · cases hv
 | store t x y =>
  simp only at hv ⊢
  split at hv
  · obtain ⟨g, hg, e⟩ := Option.map_eq_some_iff.1 hv
    injection e with e1 e2
    subst e1 e2
    rw [uW hg]
    rfl
  · cases hv
 | makeSlice t n c =>
  simp only at hv ⊢
  split at hv
  · split at hv
    · rename_i hc
      rw [if_pos hc]
      exact wu hv
    · cases hv
  · cases hv
 | slice t x lo hi mx =>
  cases mx with
  | none => simp only at hv ⊢; rw [vm]; exact mp hv
  | some _ => exact mp hv
 | lookup t x i ok => simp only at hv ⊢; rw [tO]; exact mp hv
 | makeMap t r =>
  cases r with
  | none => simp only at hv ⊢; injection hv with hv; injection hv with h1 h2; subst h1 h2; rw [jF]; rfl
  | some _ => exact mp hv
 | _ => exact mp hv
def J.un (F : Nat → Bool) : J → J
 | .jK c s s' g lb => .jK c (s.un F) (s'.un F) g lb
 | .code c s e s' => .code c (s.un F) e (s'.un F)
 | .ops o q l Z t s s' => .ops o q l Z t (s.un F) (s'.un F)
 | .call f a h v h' => .call f a (h.un F) v (h'.un F)
theorem vA (hq : Quiet h h') : Quiet (h.un F) (h'.un F) := ⟨hq.1, fun b hb => by
 rcases hq.2 b hb with q | ⟨sz, f, k, c, m, q1, q2, q3⟩
 · exact .inl (jl q)
 · exact .inr ⟨sz, f, k, c, m, gI q1, gI q2, q3⟩⟩
theorem vq (hq : Old h h') : Old (h.un F) (h'.un F) := ⟨hq.1, fun b hb => jl (hq.2 b hb)⟩
theorem lr {fn : Func} {s : bN} : cr P fn (s.un F) = cr P fn s := by
 unfold cr
 congr 1
 funext r
 cases r with
 | tmp t => rfl
 | cell a t =>
  have e : ∀ x : Value, (match x with | .pointer (some ⟨b, off, none⟩) => gN P (s.h.un F) t b off | _ => none) = (match x with | .pointer (some ⟨b, off, none⟩) => gN P s.h t b off | _ => none) := by
   intro x
   split
   · exact sT
   · rfl
  exact e (s.t a)
theorem uk {o : Oper} {s : bN} : gV P o (s.un F) = gV P o s := by
 unfold gV
 simp only [kW]
def jN (n0 : Nat) (h : ai) : Prop := n0 ≤ h.n ∧ ∀ b, b < n0 → p6 (h.o b) = true
theorem jN.stay {n0 : Nat} {a b : ai} (h : jN n0 a) (hs : dC a b) : jN n0 b := ⟨Nat.le_trans h.1 hs.1, fun x hx => by rw [hs.2 x (Nat.lt_of_lt_of_le hx h.1) (h.2 x hx)]; exact h.2 x hx⟩
def J.st : J → ai
 | .jK _ s _ _ _ => s.h
 | .code _ s _ _ => s.h
 | .ops _ _ _ _ _ s _ => s.h
 | .call _ _ h _ _ => h
def J.en : J → ai
 | .jK _ _ s _ _ => s.h
 | .code _ _ _ s => s.h
 | .ops _ _ _ _ _ _ s => s.h
 | .call _ _ _ _ h => h
theorem uw {n0 : Nat} {h2 : ai} (hF : ∀ b, F b = true → b < n0) (hr : jN n0 h) (hs : gX h h' h2) : gX (h.un F) (h'.un F) (h2.un F) := by
 obtain ⟨b, sz, f, k, c, cn, hb, hb', hn', h2n, h2o⟩ := hs
 have fb : F b = false := by
  cases e : F b with
  | false => rfl
  | true => have := hr.2 b (hF b e); rw [hb] at this; cases this
 have fn : F h.n = false := by
  cases e : F h.n with
  | false => rfl
  | true => have := hF _ e; have := hr.1; omega
 refine ⟨b, sz, f, k, c, cn, gI hb, gI hb', gI hn', h2n, fun x => ?_⟩
 show (bif F x then ye (h2.o x) else h2.o x) = if x = b then _ else if x = h.n then _ else bif F x then ye (h'.o x) else h'.o x
 rw [h2o]
 by_cases q1 : x = b
 · rw [if_pos q1, if_pos q1, q1, fb]; rfl
 · rw [if_neg q1, if_neg q1]
   by_cases q2 : x = h.n
   · rw [if_pos q2, if_pos q2, q2, fn]; rfl
   · rw [if_neg q2, if_neg q2]
theorem xv (F G : Nat → Bool) (h : ai) : (h.un F).un G = h.un (fun b => F b || G b) := by
 unfold ai.un
 simp only [ai.mk.injEq, true_and]
 funext b
 cases F b <;> cases G b <;> simp
 · cases h.o b <;> rfl
theorem wK (hs : ma h h') : ma (h.un F) (h'.un F) := by
 rcases hs with rfl | ⟨sz, c, rfl⟩ | ⟨b, sz, f, k, c, c', ho, rfl⟩
 · exact .inl rfl
 · exact .inr (.inl ⟨sz, c, jF⟩)
 · exact .inr (.inr ⟨b, sz, f, k, c, c', gI ho, mI⟩)
theorem tU {f : FuncId} {args : Array Value} {v : Value} (hd : lx P f args h v h') : lx P f args (h.un F) v (h'.un F) :=
 ⟨wK hd.1, fun G ρ => by rw [xv, xv]; exact hd.2 _ ρ⟩
theorem xb {t : TypeId} {x i v : Value} {g : ai} (hs : pU P h t x i v = some g) : pU P (h.un F) t x i v = some (g.un F) := by
 unfold pU at hs ⊢
 split at hs
 · rename_i e j k b he
   split at hs
   · rename_i sz f n ck c ho
     obtain ⟨c', h1, rfl⟩ := Option.map_eq_some_iff.1 hs
     simp only [gI ho, h1, Option.map_some, mI]
   · cases hs
 · cases hs
theorem wY {t : TypeId} {x i : Value} {g : ai} (hs : pY P h t x i = some g) : pY P (h.un F) t x i = some (g.un F) := by
 unfold pY at hs ⊢
 split at hs
 · rename_i e j k b he
   split at hs
   · rename_i sz f n ck c ho
     obtain ⟨c', h1, rfl⟩ := Option.map_eq_some_iff.1 hs
     simp only [gI ho, h1, Option.map_some, mI]
   · cases hs
 · cases hs
theorem xK {o : Oper} {s : bN} {v : Value} (hv : pK P o s = some (v, h')) : pK P o (s.un F) = some (v, h'.un F) := by
 obtain ⟨dst, op, type, pos, after, guard⟩ := o
 unfold pK at hv ⊢
 simp only [kW] at hv ⊢
 split at hv
 · obtain ⟨g, hg, hv⟩ := Option.map_eq_some_iff.1 hv
   injection hv with e1 e2; subst e1 e2
   have := xb (F := F) hg
   rw [show (s.un F).h = s.h.un F from rfl, this]; rfl
 · rename_i args argTypes
   split at hv
   · rename_i m k t u ha ht
     obtain ⟨g, hg, hv⟩ := Option.map_eq_some_iff.1 hv
     injection hv with e1 e2; subst e1 e2
     have := wY (F := F) hg
     rw [show (s.un F).h = s.h.un F from rfl, this]; rfl
   · cases hv
 · cases hv
theorem xz (F : Nat → Bool) {n0 : Nat} (hF : ∀ b, F b = true → b < n0) {dr : Array Oper → (Nat → Bool) → (Nat → Bool) → Prop} {ρ : dV} {j : J} (hb : ee P dr ρ j) : jN n0 j.st → ee P dr ρ (j.un F) := by
 induction hb with
 | skip => exact fun _ => .skip
 | label => exact fun _ => .label
 | exit => exact fun _ => .exit
 | ret => exact fun _ => .ret
 | region h1 _ ih => exact fun hr => .region h1 (ih hr)
 | draw h1 h2 _ ih => exact fun hr => .draw h1 h2 (ih hr)
 | kV b1 _ ih1 ih2 => exact fun hr => .kV (ih1 hr) (ih2 (hr.stay (fo b1)))
 | kZ _ h ih => exact fun hr => .kZ (ih hr) h
 | jz h1 h2 _ ih => exact fun hr => .jz (by rw [kW]; exact h1) h2 (ih hr)
 | jd h1 h2 _ ih => exact fun hr => .jd (by rw [kW]; exact h1) h2 (ih hr)
 | gP _ h ih => exact fun hr => .gP (ih hr) h
 | gR _ ih => exact fun hr => .gR (ih hr)
 | jk b1 _ ih1 ih2 => exact fun hr => .jk (ih1 hr) (ih2 (hr.stay (fo b1)))
 | jn _ h ih => exact fun hr => .jn (ih hr) h
 | scope _ ih => exact fun hr => .scope (ih hr)
 | nil => exact fun _ => .nil
 | op h1 h2 ha h3 h4 h5 _ ih =>
  intro hr
  refine .op h1 h2 (p8 ha) (fun hm => vA (h3 hm)) h4 (fun b hb => jl (h5 b hb)) ?_
  rw [← kl]
  exact ih (by show jN n0 (bN.put _ _ _ _).h; rw [bk]; exact hr.stay (iL ha))
 | jm h1 h2 ha hs hmq h4 h5 _ ih =>
  intro hr
  refine .jm h1 h2 (p8 ha) (uw hF hr hs) hmq h4 (fun b hb => jl (h5 b hb)) ?_
  rw [← kl]
  exact ih (by show jN n0 (bN.put _ _ _ _).h; rw [bk]; exact hr.stay (jW hs (iL ha)))
 | l8 h1 h2 ha h3 h4 h5 _ ih =>
  intro hr
  refine .l8 h1 h2 (xK ha) h3 h4 (fun b hb => jl (h5 b hb)) ?_
  rw [← kl]
  exact ih (by show jN n0 (bN.put _ _ _ _).h; rw [bk]; exact hr.stay (l9 ha).stay)
 | direct hd => exact fun _ => .direct (tU hd)
 | pF b1 _ ih1 ih2 => exact fun hr => .pF (ih1 hr) (ih2 (jN.stay hr (fo b1)))
 | mh h1 h2 h3 h4 h5 h6 h7 b1 h8 _ h9 ih1 ih2 => exact fun hr => .mh h1 h2 h3 h4 h5 h6 h7 (ih1 hr) (by rw [kW]; exact h8) (ih2 (jN.stay hr (fo b1))) h9
 | @j8 _ _ _ _ _ _ s' _ _ _ _ _ s4 _ _ h1 h2 b1 h3 h4 h5 _ h6 h7 h8 ih1 ih2 => exact fun hr => .j8 h1 h2 (ih1 hr) h3 h4 h5 (ih2 (jN.stay hr (fo b1))) h6 (by rw [lr]; exact h7) (by rw [← h8]; exact lr (F := F) (s := { s' with h := s4.h }))
 | jY h1 h2 h3 h4 h5 h6 h7 h8 _ ih =>
  intro hr
  obtain ⟨ro', e⟩ := eP (F := F) h5
  refine .jY h1 h2 h3 (by rw [kW]; exact h4) e (p8 h6) h7 h8 ?_
  have := ih (by show jN n0 (bN.put _ _ _ _).h; rw [bk]; exact hr)
  simp only [J.un, kl] at this
  exact this
 | iy h1 h2 h3 h4 h5 h6 h7 h8 _ ih =>
  intro hr
  obtain ⟨ro', e⟩ := eP (F := F) h5
  refine .iy h1 h2 h3 (by rw [kW]; exact h4) e (p8 h6) h7 h8 ?_
  have := ih (by show jN n0 (bN.put _ _ _ _).h; rw [bk]; exact hr)
  simp only [J.un, kl] at this
  exact this
 | jH h1 h2 h3 bc h4 h5 h6 _ ih1 ih2 =>
  intro hr
  refine .jH h1 h2 (by rw [uk]; exact h3) (ih1 hr) (fun hm => vq (h4 hm)) h5 (fun b hb => vz (h6 b hb)) ?_
  rw [← kl]
  exact ih2 (by show jN n0 (bN.put _ _ _ _).h; rw [bk]; exact hr.stay (fo bc))
 | iH h1 h2 _ ih =>
  intro hr
  refine .iH h1 h2 ?_
  have := ih (by show jN n0 (bN.put _ _ _ _).h; rw [bk]; exact hr)
  simp only [J.un, kl] at this
  exact this
 | call h1 h2 _ h3 h4 ih => exact fun hr => .call h1 h2 (ih hr) h3 (by rw [lr]; exact h4)
 | @rangeFunc ρ g ps assign body s gf lb v h' h1 h2 h3 h4 h5 _ ih => exact fun hr => .rangeFunc h1 h2 (by rw [kW]; exact h3) h4 h5 (ih ⟨Nat.le_succ_of_le hr.1, hr.2⟩)
 | gQ h1 h2 h3 h4 h5 h6 b1 b2 h7 h8 h9 _ ih1 ih2 ih3 =>
  intro hr
  have r1 := jN.stay hr (fo b1)
  have r2 := jN.stay r1 (fo b2)
  refine .gQ h1 h2 (by unfold jq at h3 ⊢; simp only [kW]; exact h3) h4 h5 h6 (ih1 hr) (ih2 r1) (fun hm => vq (h7 hm)) h8 (fun b hb => jl (h9 b hb)) ?_
  have := ih3 (by show jN n0 (bN.put _ _ _ _).h; rw [bk]; exact r2)
  simp only [J.un, kl] at this
  exact this
def iE (n0 : Nat) (h : ai) : Prop := ∀ b sz ro f st k c, n0 ≤ b → h.o b = .cells sz ro f st k c → n0 ≤ f
theorem iE.eg {n0 : Nat} {o : Oper} {s : bN} {v : Value} {h' : ai} (hv : eg P o s = some (v, h')) (hr : jN n0 s.h) (hf : iE n0 s.h) : iE n0 h' := by
 rcases pt hv with rfl | ⟨sz, c, rfl⟩ | ⟨b, sz, f, k, c, c', ho, rfl⟩ | ⟨b, sz, f, k, c, cn, ho, rfl⟩
 · exact hf
 · intro x bP ro1 f1 st1 k1 c1 hx hox
   simp only [ai.new] at hox
   split at hox
   · injection hox with _ _ e; rw [← e]; exact hr.1
   · exact hf x _ _ _ _ _ _ hx hox
 · intro x bP ro1 f1 st1 k1 c1 hx hox
   simp only [ai.set] at hox
   split at hox
   · rename_i e; subst e; injection hox with _ _ e; rw [← e]; exact hf x _ _ _ _ _ _ hx ho
   · exact hf x _ _ _ _ _ _ hx hox
 · have hbn : n0 ≤ b := by
     rcases Nat.lt_or_ge b n0 with q | q
     · have := hr.2 b q; rw [ho] at this; cases this
     · exact q
   have hfn := hf b _ _ _ _ _ _ hbn ho
   intro x bP ro1 f1 st1 k1 c1 hx hox
   change (if x = s.h.n then _ else if x = b then _ else s.h.o x) = _ at hox
   split at hox
   · injection hox with _ _ e; rw [← e]; exact hfn
   · split at hox
     · injection hox with _ _ e; rw [← e]; exact hfn
     · exact hf x _ _ _ _ _ _ hx hox
theorem iE.step {n0 : Nat} {h h' : ai} (hf : iE n0 h) (hs : ma h h') (hr : jN n0 h) : iE n0 h' := by
 rcases hs with rfl | ⟨sz, c, rfl⟩ | ⟨b, sz, f, k, c, c', ho, rfl⟩
 · exact hf
 · intro x bP ro1 f1 st1 k1 c1 hx hox
   simp only [ai.new] at hox
   split at hox
   · injection hox with _ _ e; rw [← e]; exact hr.1
   · exact hf x _ _ _ _ _ _ hx hox
 · intro x bP ro1 f1 st1 k1 c1 hx hox
   simp only [ai.set] at hox
   split at hox
   · rename_i e; subst e; injection hox with _ _ e; rw [← e]; exact hf x _ _ _ _ _ _ hx ho
   · exact hf x _ _ _ _ _ _ hx hox
theorem iE.yi {n0 : Nat} {h h' h2 : ai} (hs : gX h h' h2) (hr : jN n0 h) (hf0 : iE n0 h) (hf : iE n0 h') : iE n0 h2 := by
 obtain ⟨b, sz, f, k, c, cn, hb, hb', hn', h2n, h2o⟩ := hs
 have hbn : n0 ≤ b := by
  rcases Nat.lt_or_ge b n0 with q | q
  · have := hr.2 b q; rw [hb] at this; cases this
  · exact q
 have hfn := hf0 b _ _ _ _ _ _ hbn hb
 intro x bP ro1 f1 st1 k1 c1 hx hox
 rw [h2o] at hox
 split at hox
 · injection hox with _ _ e; rw [← e]; exact hfn
 · split at hox
   · injection hox with _ _ e; rw [← e]; exact hfn
   · exact hf x _ _ _ _ _ _ hx hox
theorem yY {n0 : Nat} {dr : Array Oper → (Nat → Bool) → (Nat → Bool) → Prop} {ρ : dV} {j : J} (hb : ee P dr ρ j) : jN n0 j.st → iE n0 j.st → iE n0 j.en := by
 induction hb with
 | skip | label | exit | ret | nil => exact fun _ h => h
 | region _ _ ih => exact ih
 | draw _ _ _ ih => exact ih
 | kV b1 _ ih1 ih2 => exact fun hr h => ih2 (jN.stay hr (fo b1)) (ih1 hr h)
 | kZ _ _ ih => exact ih
 | jz _ _ _ ih => exact ih
 | jd _ _ _ ih => exact ih
 | gP _ _ ih => exact ih
 | gR _ ih => exact ih
 | jk b1 _ ih1 ih2 => exact fun hr h => ih2 (jN.stay hr (fo b1)) (ih1 hr h)
 | jn _ _ ih => exact ih
 | scope _ ih => exact ih
 | op _ _ ha _ _ _ _ ih => exact fun hr h => ih (by show jN n0 (bN.put _ _ _ _).h; rw [bk]; exact hr.stay (iL ha)) (by show iE n0 (bN.put _ _ _ _).h; rw [bk]; exact h.eg ha hr)
 | jm _ _ ha hs _ _ _ _ ih => exact fun hr h => ih (by show jN n0 (bN.put _ _ _ _).h; rw [bk]; exact hr.stay (jW hs (iL ha))) (by show iE n0 (bN.put _ _ _ _).h; rw [bk]; exact iE.yi hs hr h (h.eg ha hr))
 | l8 _ _ ha _ _ _ _ ih => exact fun hr h => ih (by show jN n0 (bN.put _ _ _ _).h; rw [bk]; exact hr.stay (l9 ha).stay) (by show iE n0 (bN.put _ _ _ _).h; rw [bk]; exact h.step (l9 ha) hr)
 | direct hd => exact fun hr h => h.step hd.1 hr
 | pF b1 _ ih1 ih2 => exact fun hr h => ih2 (jN.stay hr (fo b1)) (ih1 hr h)
 | mh _ _ _ _ _ _ _ b1 _ _ _ ih1 ih2 => exact fun hr h => ih2 (jN.stay hr (fo b1)) (ih1 hr h)
 | j8 _ _ b1 _ _ _ _ _ _ _ ih1 ih2 => exact fun hr h => ih2 (jN.stay hr (fo b1)) (ih1 hr h)
 | jY _ _ _ _ _ _ _ _ _ ih | iy _ _ _ _ _ _ _ _ _ ih => exact fun hr h => ih (by show jN n0 (bN.put _ _ _ _).h; rw [bk]; exact hr) (by show iE n0 (bN.put _ _ _ _).h; rw [bk]; exact h)
 | jH _ _ _ bc _ _ _ _ ih1 ih2 => exact fun hr h => ih2 (by show jN n0 (bN.put _ _ _ _).h; rw [bk]; exact jN.stay hr (fo bc)) (by show iE n0 (bN.put _ _ _ _).h; rw [bk]; exact ih1 hr h)
 | iH _ _ _ ih => exact fun hr h => ih (by show jN n0 (bN.put _ _ _ _).h; rw [bk]; exact hr) (by show iE n0 (bN.put _ _ _ _).h; rw [bk]; exact h)
 | call _ _ _ _ _ ih => exact ih
 | rangeFunc _ _ _ _ _ _ ih => exact fun hr h => ih ⟨Nat.le_succ_of_le hr.1, hr.2⟩ h
 | gQ _ _ _ _ _ _ b1 b2 _ _ _ _ ih1 ih2 ih3 =>
  intro hr h
  have r1 := jN.stay hr (fo b1)
  have r2 := jN.stay r1 (fo b2)
  exact ih3 (by show jN n0 (bN.put _ _ _ _).h; rw [bk]; exact r2) (by show iE n0 (bN.put _ _ _ _).h; rw [bk]; exact ih2 r1 (ih1 hr h))
def y4 (y : gl) : gl := ⟨y.sz, true, y.c⟩
def w8 (O : an) : an := O.map fun p => (p.1, y4 p.2)
def lv : ep → ep
 | .dead => .dead
 | .cells sz _ f st k c => .cells sz true f st k c
def ai.ro (h : ai) : ai := { n := h.n, o := fun b => lv (h.o b) }
def ic (h : ai) (b : Nat) : Bool := match h.o b with
 | .cells _ false _ _ _ _ => true
 | _ => false
theorem xq (h : ai) : h.ro.un (ic h) = h := by
 obtain ⟨n, o⟩ := h
 unfold ai.un ai.ro ic
 simp only [ai.mk.injEq, true_and]
 funext b
 cases o b with
 | dead => rfl
 | cells sz ro f st k c => cases ro <;> rfl
theorem ra {x : ep} {sz ro f st k c} (h : lv x = .cells sz ro f st k c) : ∃ ro', x = .cells sz ro' f st k c := by
 cases x with
 | dead => cases h
 | cells bP ro1 f1 st1 k1 c1 =>
  injection h with e1 e2 e3 e4 e5 e6
  subst e1 e3 e4 e5 e6
  exact ⟨ro1, rfl⟩
theorem tc {x : ep} {sz ro f st k c} (h : lv x = .cells sz ro f st k c) : ro = true := by
 cases x with
 | dead => cases h
 | cells bP ro1 f1 st1 k1 c1 => injection h with e1 e2; exact e2.symm
theorem WF.yp (hw : WF h) : WF h.ro := by
 refine ⟨fun b sz ro f m k c ho => ?_, fun b sz ro f st k c ho => ?_, fun y z f bP ro1 st1 k1 c1 fk ro2 k2 c2 o1 o2 hor => ?_, fun b hb => ?_⟩
 · obtain ⟨ro', e⟩ := ra ho
   obtain ⟨q1, a1, a2, a3, a4, a5, q2⟩ := hw.wf b _ _ _ _ _ _ e
   exact ⟨q1, a1, true, a3, a4, a5, by show lv (h.o m) = _; rw [q2]; rfl⟩
 · obtain ⟨ro', e⟩ := ra ho
   exact hw.jw b _ _ _ _ _ _ e
 · exfalso
   have e1 := tc o1
   have e2 := tc o2
   subst e1 e2
   rcases hor with q | ⟨q, _⟩ <;> cases q
 · show lv (h.o b) = _
   rw [hw.out b hb]; rfl
theorem WF.zg {g h2 : ai} (hw : WF h') (hg : WF g) (hle : g.n ≤ h'.n) (hn : h2.n = h'.n) (h1 : ∀ b, b < g.n → h2.o b = g.o b) (h3 : ∀ b, g.n ≤ b → h2.o b = h'.o b) (hf : iE g.n h') : WF h2 := by
 have low : ∀ {b sz ro f st k c}, b < g.n → h2.o b = .cells sz ro f st k c → g.o b = .cells sz ro f st k c := fun hb ho => by rw [← h1 _ hb]; exact ho
 have high : ∀ {b sz ro f st k c}, g.n ≤ b → h2.o b = .cells sz ro f st k c → h'.o b = .cells sz ro f st k c := fun hb ho => by rw [← h3 _ hb]; exact ho
 refine ⟨fun b sz ro f m k c ho => ?_, fun b sz ro f st k c ho => ?_, fun y z f bP ro1 st1 k1 c1 fk ro2 k2 c2 o1 o2 hor => ?_, fun b hb => ?_⟩
 · rcases Nat.lt_or_ge b g.n with q | q
   · obtain ⟨q1, a1, a2, a3, a4, a5, q2⟩ := hg.wf b _ _ _ _ _ _ (low q ho)
     exact ⟨by omega, a1, a2, a3, a4, a5, by rw [h1 m q1]; exact q2⟩
   · obtain ⟨q1, a1, a2, a3, a4, a5, q2⟩ := hw.wf b _ _ _ _ _ _ (high q ho)
     have hfb := hf b _ _ _ _ _ _ q (high q ho)
     have hfm := hw.jw m _ _ _ _ _ _ q2
     exact ⟨by omega, a1, a2, a3, a4, a5, by rw [h3 m (by omega)]; exact q2⟩
 · rcases Nat.lt_or_ge b g.n with q | q
   · exact hg.jw b _ _ _ _ _ _ (low q ho)
   · exact hw.jw b _ _ _ _ _ _ (high q ho)
 · rcases Nat.lt_or_ge y g.n with q | q <;> rcases Nat.lt_or_ge z g.n with r | r
   · exact hg.uniq y z _ _ _ _ _ _ _ _ _ _ (low q o1) (low r o2) hor
   · omega
   · have a1 := hf y _ _ _ _ _ _ q (high q o1)
     have a2 := hg.jw z _ _ _ _ _ _ (low r o2)
     omega
   · exact hw.uniq y z _ _ _ _ _ _ _ _ _ _ (high q o1) (high r o2) hor
 · rw [h3 b (by omega)]; exact hw.out b (by omega)
theorem ql (O : an) : (w8 O).map (·.1) = O.map (·.1) := by unfold w8; rw [List.map_map]; rfl
theorem Sat.yp {O : an} (hs : Sat h O) : Sat h.ro (w8 O) := by
 refine ⟨by rw [ql]; exact hs.nd, fun p hp => ?_, hs.wf.yp⟩
 obtain ⟨q, hq, rfl⟩ := List.mem_map.1 hp
 obtain ⟨f, k, e⟩ := hs.is q hq
 exact ⟨f, k, by show lv (h.o q.1) = _; rw [e]; rfl⟩
theorem x6 {g : ai} {sz : Nat} {v : Value} {r : Nat × List Value} (hrd : ∀ b c, g.rd b = some c → h.rd b = some c) (hs : iX g sz v = some r) : iX h sz v = some r := by
 unfold iX at hs ⊢
 split at hs
 · exact hs
 · rename_i b off l c
   cases hb : g.rd b with
   | none => rw [hb] at hs; cases hs
   | some c => rw [hb] at hs; rw [hrd b c hb]; exact hs
 · exact hs
 · cases hs
def qL (n : Nat) (O : an) : ai := { n := n, o := fun b => match O.find? (fun p => Nat.beq p.1 b) with | some p => .cells p.2.sz p.2.ro b none 0 p.2.c | none => .dead }
theorem vo {O : an} (hnd : (O.map (·.1)).Nodup) {p : Nat × gl} (hp : p ∈ O) : O.find? (fun q => Nat.beq q.1 p.1) = some p := by
 cases hf : O.find? (fun q => Nat.beq q.1 p.1) with
 | none =>
  have := List.find?_eq_none.1 hf p hp
  simp at this
 | some q =>
  have h1 := List.find?_some hf
  have h2 := List.mem_of_find?_eq_some hf
  have e1 := Nat.eq_of_beq_eq_true h1
  obtain ⟨i, hi⟩ := List.getElem?_of_mem h2
  obtain ⟨j, hj⟩ := List.getElem?_of_mem hp
  have := eX hnd hi hj e1
  subst this
  rw [hi] at hj
  exact hj
theorem fX {n b : Nat} {O : an} {sz ro f st k c} (ho : (qL n O).o b = .cells sz ro f st k c) : ∃ p ∈ O, p.1 = b ∧ f = b ∧ st = none ∧ p.2.c = c := by
 simp only [qL] at ho
 split at ho
 · rename_i p hp
   injection ho with e1 e2 e3 e4 e5 e6
   exact ⟨p, List.mem_of_find?_eq_some hp, Nat.eq_of_beq_eq_true (List.find?_some (p := fun q : Nat × gl => Nat.beq q.1 b) hp), e3.symm, e4.symm, e6⟩
 · cases ho
theorem tV {O : an} (hs : Sat h (w8 O)) : Sat (qL h.n O) O := by
 have hnd : (O.map (·.1)).Nodup := by rw [← ql]; exact hs.nd
 refine ⟨hnd, fun p hp => ⟨p.1, 0, ?_⟩, fun b sz ro f m k c ho => ?_, fun b sz ro f st k c ho => ?_, fun y z f bP ro1 st1 k1 c1 fk ro2 k2 c2 o1 o2 _ => ?_, fun b hb => ?_⟩
 · simp only [qL, vo hnd hp]
 · obtain ⟨p, _, _, _, q, _⟩ := fX ho
   cases q
 · obtain ⟨p, _, _, q, _⟩ := fX ho
   omega
 · obtain ⟨p, _, _, q, _⟩ := fX o1
   obtain ⟨p2, _, _, q2, _⟩ := fX o2
   omega
 · cases hb2 : (qL h.n O).o b with
   | dead => rfl
   | cells sz ro f st k c =>
    obtain ⟨p, hp, q, _⟩ := fX hb2
    have := hs.lt (p := (p.1, y4 p.2)) (List.mem_map.2 ⟨p, hp, rfl⟩)
    have hb' : h.n ≤ b := hb
    simp only at this
    omega
theorem Src.yp {O : an} {sz n : Nat} {v : Value} {cs : List Value} (hs : Src O sz v n cs) : Src (w8 O) sz v n cs := fun h hh => by
 refine x6 (fun b c hc => ?_) (hs _ (tV hh))
 rcases iM hc with ⟨sz, ro, f, k, q⟩ | ⟨sz, ro, f, m, k, fk, ro2, f2, c2, q, _⟩
 · obtain ⟨p, hp, rfl, _, _, rfl⟩ := fX q
   obtain ⟨f1, k1, e⟩ := hh.is (p.1, y4 p.2) (List.mem_map.2 ⟨p, hp, rfl⟩)
   unfold ai.rd
   rw [e]
   rfl
 · obtain ⟨p, _, _, _, q, _⟩ := fX q
   cases q
theorem Spec.frame {f : FuncId} {args : Array Value} {O : an} {Post : Value → an → Prop}
  (hf : Spec P false f args (w8 O) fun v O' => ∃ N, Post v N ∧ (∀ p ∈ N, p.2.ro = false) ∧ O' = N ++ w8 O) : Spec P true f args O fun v O' => ∃ N, Post v N ∧ O' = N ++ O := by
 intro g hg
 obtain ⟨v, h', O', b1, ⟨N, p1, p2, rfl⟩, s', _⟩ := hf g.ro hg.yp
 have st : dC g.ro h' := fo b1
 have hro : jN g.n g.ro := ⟨Nat.le_refl _, fun b _ => by show p6 (lv (g.o b)) = true; cases g.o b <;> rfl⟩
 have b2 : ee P vc .none (.call f args g v (h'.un (ic g))) := by
  have := xz (ic g) (n0 := g.n) (fun b hb => by
   rcases Nat.lt_or_ge b g.n with q | q
   · exact q
   · unfold ic at hb; rw [hg.wf.out b q] at hb; cases hb) b1 hro
  simp only [J.un, xq] at this
  exact this
 have hold : ∀ b, b < g.n → h'.o b = g.ro.o b := fun b hb => st.2 b hb (by
  show p6 (lv (g.o b)) = true
  cases g.o b <;> rfl)
 have hold2 : ∀ b, b < g.n → (h'.un (ic g)).o b = g.o b := fun b hb => by
  have e := jl (F := ic g) (hold b hb)
  rw [xq] at e
  exact e
 refine ⟨v, h'.un (ic g), N ++ O, b2, ⟨N, p1, rfl⟩, ⟨?_, fun p hp => ?_, s'.wf.zg hg.wf st.1 rfl hold2 (fun b hb => by
  have e : ic g b = false := by unfold ic; rw [hg.wf.out b hb]
  show (bif ic g b then _ else _) = _
  rw [e]; rfl) (yY b1 hro (fun b sz ro f st k c hb ho => by
  have : lv (g.o b) = .cells sz ro f st k c := ho
  rw [hg.wf.out b hb] at this; cases this))⟩, fun _ => ⟨st.1, hold2⟩⟩
 · have := s'.nd
   rw [List.map_append, ql] at this
   rw [List.map_append]
   exact this
 · rcases List.mem_append.1 hp with hp | hp
   · obtain ⟨f0, k, e⟩ := s'.is p (List.mem_append_left _ hp)
     rw [p2 p hp] at e
     exact ⟨f0, k, by rw [p2 p hp]; exact gI e⟩
   · obtain ⟨f0, k, e⟩ := hg.is p hp
     exact ⟨f0, k, by rw [hold2 p.1 (hg.lt hp)]; exact e⟩
theorem Grow.own {sz : Nat} {a : Option Addr} {n c : Nat} {cs : List Value} {G : an} (hg : Grow sz a n c cs G) : ∀ p ∈ G, p.2.ro = false := by
 rcases hg with ⟨_, _, _, _, rfl⟩ | ⟨b, _, rfl, _⟩
 · intro p hp; simp at hp
 · intro p hp
   rw [List.mem_singleton] at hp
   subst hp; rfl
end Go.Proofs.YthekokdpplobhaaGreat.Eng
set_option linter.unusedVariables false
set_option linter.unusedSimpArgs false
namespace Go.Proofs.YthekokdpplobhaaGreat.Eng
variable {P : Program} {x : Cx} {L L' : da} {O O' : an} {ops : Array Oper} {mq : Mk} {i : Nat} {l : List Oper} {K : bN → Prop}
  {t u : TypeId} {p : String} {af : Array Edge} {gd : Option (Nat × Bool)} {d : Tmp}
theorem pz {α : Type} [Inhabited α] {E : α → List Value} {m : Nat} (hE : ∀ a, (E a).length = m) (l : List α) (k j : Nat) {v : Value} (h : k < l.length) (hv : (E (nth l k))[j]? = some v) : (flat E l)[k * m + j]? = some v := by
 rw [uu hE l k j h, hv]
 have := (List.getElem?_eq_some_iff.1 hv).1
 rw [hE] at this
 exact this
theorem aB : (∀ (q : Prop) [Decidable q], (decide q = true) = q) ∧ (∀ (q : Prop) [Decidable q], (decide q = false) = ¬ q) ∧ (∀ b : Bool, ((!b) = true) = (b = false)) ∧ (∀ b : Bool, ((!b) = false) = (b = true)) ∧
  (∀ b : Bool, (true = b) = (b = true)) ∧ (∀ b : Bool, (false = b) = (b = false)) ∧ (∀ a b : Int, (¬ a < b) = (b ≤ a)) ∧ (∀ a b : Int, (¬ a ≤ b) = (b < a)) ∧ (∀ q : Prop, (¬ ¬ q) = q) := by
 refine ⟨fun q _ => by simp, fun q _ => by simp, fun b => by simp, fun b => by simp, fun b => by cases b <;> simp, fun b => by cases b <;> simp, fun a b => by simp, fun a b => by simp, fun q => by simp⟩
theorem St.tl {s : bN} (is : List Nat) (n : Nat) (hs : St x L O s)
  (hL : Told L L' := by repeat (first | exact trivial | refine ⟨by first | exact rfl | exact congrArg (fun n => some (I n)) (by omega) | (simp only [List.length_append, List.length_set, List.length_cons, List.length_nil]; exact rfl), ?_⟩))
  (hnd : is.Nodup := by decide) (hlt : ∀ i ∈ is, i < n := by decide) (hO : Eng.pick O is ++ O.drop n = O' := by exact rfl) : St x L' O' s := hs.told hL is n hnd hlt hO
theorem Sat.tl {h : ai} (is : List Nat) (n : Nat) (hs : Sat h O) (hnd : is.Nodup := by decide) (hlt : ∀ i ∈ is, i < n := by decide) (hO : Eng.pick O is ++ O.drop n = O' := by exact rfl) : Sat h O' := hs.told is n hnd hlt hO
theorem fu {p : Prop} [Decidable p] (h : ¬ p) : Value.bool false = .bool (decide p) := by rw [decide_eq_false h]
theorem kD {p : Prop} [Decidable p] (h : p) : Value.bool true = .bool (decide p) := by rw [decide_eq_true h]
theorem at_ {b : Nat} {e : gl} (h : aU O b e := by first | exact aU.at 0 rfl | exact aU.at 1 rfl | exact aU.at 2 rfl | exact aU.at 3 rfl | exact aU.at 4 rfl | exact aU.at 5 rfl | exact aU.at 6 rfl | exact aU.at 7 rfl | exact aU.mem (by assumption) | (repeat (first | assumption | apply aU.cons))) : aU O b e := h
theorem iY {sz n : Nat} {v : Value} {cs : List Value} (h : Src O sz v n cs := by repeat (first | assumption | exact Grow.src (by assumption) | exact Grow.wH (by assumption) | apply Src.cons | apply Src.app)) : Src O sz v n cs := h
theorem bo {α : Type} {a b : α} (h : a = b := by first | exact rfl | exact congrArg (fun n => some (I n)) (by omega)) : a = b := h
theorem au (h : ∀ g, Sat g O → Sat g O' := by intro g hs; first | exact hs | exact hs.tail | exact hs.tail.tail | exact hs.tail.tail.tail | exact hs.tail.tail.tail.tail | exact hs.tail.tail.tail.tail.tail | exact hs.tail.tail.tail.tail.tail.tail) : ∀ g, Sat g O → Sat g O' := h
theorem y9 {a b : Value} (h : a = b := by first | exact rfl | exact kD (by first | assumption | omega) | exact fu (by first | assumption | omega) | exact congrArg Value.bool (decide_eq_decide.2 (by omega)) | exact congrArg Value.bool (Bool.eq_iff_iff.2 (by simp only [Bool.not_eq_true', decide_eq_false_iff_not, decide_eq_true_eq]; omega))) : a = b := h
theorem Src.lit {b off n c sz : Nat} {y : gl} {cs : List Value} (hk : aU O b y := by first | exact aU.at 0 rfl | exact aU.at 1 rfl | exact aU.at 2 rfl | exact aU.at 3 rfl | exact aU.at 4 rfl | exact aU.at 5 rfl | exact aU.at 6 rfl | exact aU.at 7 rfl | exact aU.mem (by assumption) | (repeat (first | assumption | apply aU.cons))) (hl : off + n * sz ≤ y.c.length := by exact Nat.le_of_ble_eq_true rfl) (he : (y.c.drop off).take (n * sz) = cs := by exact rfl) : Src O sz (Row b off n c) n cs := Src.of hk hl he
theorem ae.ld {y : Operand} {ty : TypeId} {b off : Nat} {e : gl} {v : Value} (hw : Met x L ops gd) (hy : dc L y = some (Ptr b off)) (ht : de P ty = some false)
  (h : ae P x ops mq (i + 1) l ((d, v) :: L) O K)
  (hlz : mq.lz i = false := by first | exact rfl | exact (show lp _ _ = false from by decide +kernel))
  (hk : aU O b e := by first | exact aU.at 0 rfl | exact aU.at 1 rfl | exact aU.at 2 rfl | exact aU.at 3 rfl | exact aU.at 4 rfl | exact aU.at 5 rfl | exact aU.at 6 rfl | exact aU.at 7 rfl | exact aU.mem (by assumption) | (repeat (first | assumption | apply aU.cons)))
  (hv : e.c[off]? = some v := by first | exact rfl | exact bB _ _ _ (by first | assumption | omega) | exact pz (by exact fun _ => rfl) _ _ _ (by omega) (by exact rfl)) :
  ae P x ops mq i ({ dst := some d, op := .load ty y, type := t, pos := p, after := af, guard := gd } :: l) L O K := ae.yD hlz hw hy hk ht hv h
theorem ae.ba {y : Operand} {ty : TypeId} {a : Option Addr} {n c m sz k : Nat} {cs : List Value} {v : Value} (hw : Met x L ops gd) (hy : dc L y = some (ji a k)) (ht : de P ty = some false)
  (h : ae P x ops mq (i + 1) l ((d, v) :: L) O K)
  (hlz : mq.lz i = false := by first | exact rfl | exact (show lp _ _ = false from by decide +kernel))
  (hsrc : Src O sz (.slice a n c) m cs := by repeat (first | assumption | exact Grow.src (by assumption) | exact Grow.wH (by assumption) | apply Src.cons | apply Src.app))
  (hv : cs[k]? = some v := by first | exact rfl | exact bB _ _ _ (by first | assumption | omega) | exact pz (by exact fun _ => rfl) _ _ _ (by omega) (by exact rfl)) :
  ae P x ops mq i ({ dst := some d, op := .load ty y, type := t, pos := p, after := af, guard := gd } :: l) L O K := ae.xP hlz hw hy hsrc ht hv h
theorem ae.yP {y : Operand} {ty : TypeId} {b off n : Nat} {e : gl} {vs : List Value} (hw : Met x L ops gd) (hy : dc L y = some (Ptr b off)) (ht : de P ty = some true) (hn : cR P ty = some n)
  (h : ae P x ops mq (i + 1) l ((d, .agg vs.toArray) :: L) O K)
  (hlz : mq.lz i = false := by first | exact rfl | exact (show lp _ _ = false from by decide +kernel))
  (hk : aU O b e := by first | exact aU.at 0 rfl | exact aU.at 1 rfl | exact aU.at 2 rfl | exact aU.at 3 rfl | exact aU.at 4 rfl | exact aU.at 5 rfl | exact aU.at 6 rfl | exact aU.at 7 rfl | exact aU.mem (by assumption) | (repeat (first | assumption | apply aU.cons)))
  (hv : mg e.c off n = some vs := by first | exact rfl | exact pQ (by exact fun _ => rfl) _ _ (by first | assumption | omega)) :
  ae P x ops mq i ({ dst := some d, op := .load ty y, type := t, pos := p, after := af, guard := gd } :: l) L O K := ae.yI hlz hw hy hk ht hn hv h
theorem ae.ix {y z : Operand} {ty e : TypeId} {b off n c sz : Nat} {k : IntKind} {j : Int} {off' : Nat} (hw : Met x L ops gd) (hy : dc L y = some (Row b off n c)) (hz : dc L z = some (.int k j))
  (he : elemOf P ty = some e) (hs : cR P e = some sz) (h : ae P x ops mq (i + 1) l ((d, Ptr b off') :: L) O K)
  (h0 : 0 ≤ j := by omega) (h1 : j < n := by omega) (ho : off + j.toNat * sz = off' := by first | (simp only [rB, Int.toNat_natCast, Nat.mul_one, Nat.zero_add]; exact rfl) | exact rfl) :
  ae P x ops mq i ({ dst := some d, op := .indexAddr ty y z, type := t, pos := p, after := af, guard := gd } :: l) L O K := ae.indexAddr hw hy hz he hs h0 h1 ho h
theorem ae.eH {y z : Operand} {ty e : TypeId} {a : Option Addr} {n c m sz : Nat} {cs : List Value} {k : IntKind} {j : Int} {off' : Nat} (hw : Met x L ops gd) (hy : dc L y = some (.slice a n c)) (hz : dc L z = some (.int k j))
  (he : elemOf P ty = some e) (hs : cR P e = some sz) (h : ae P x ops mq (i + 1) l ((d, ji a off') :: L) O K)
  (hsrc : Src O sz (.slice a n c) m cs := by repeat (first | assumption | exact Grow.src (by assumption) | exact Grow.wH (by assumption) | apply Src.cons | apply Src.app))
  (h0 : 0 ≤ j := by omega) (h1 : j < n := by omega) (ho : j.toNat * sz = off' := by first | (simp only [rB, Int.toNat_natCast, Nat.mul_one, Nat.zero_add]; exact rfl) | exact rfl) :
  ae P x ops mq i ({ dst := some d, op := .indexAddr ty y z, type := t, pos := p, after := af, guard := gd } :: l) L O K := ae.xZ hw hy hz he hs hsrc h0 h1 ho h
theorem ae.bQ {y : Operand} {ty : TypeId} {a : Option Addr} {n c m sz k f g0 : Nat} {cs : List Value} {fs : Array Field} {g : Field} {off' : Nat} (hw : Met x L ops gd) (hy : dc L y = some (ji a k)) (hu : P.underlying ty = some (.struct fs)) (hg : fs[f]? = some g)
  (hs : cR P g.type = some (g0 + 1)) (h : ae P x ops mq (i + 1) l ((d, ji a off') :: L) O K)
  (hsrc : Src O sz (.slice a n c) m cs := by repeat (first | assumption | exact Grow.src (by assumption) | exact Grow.wH (by assumption) | apply Src.cons | apply Src.app))
  (hn : k < cs.length := by first | (rw [flat_encE_len]; omega) | (simp; omega)) (ho : k + g.offset = off' := by exact rfl) :
  ae P x ops mq i ({ dst := some d, op := .fieldAddr ty y f, type := t, pos := p, after := af, guard := gd } :: l) L O K := ae.xA hw hy hu hg hs hsrc hn ho h
theorem rE (j : Nat) {q : Option (Nat × gl)} (h : O[j]? = q) : O[j]? = q := h
theorem ae.st {y z : Operand} {ty : TypeId} {j b off sz : Nat} {c vs c' : List Value} {v : Value} (hw : Met x L ops gd) (hy : dc L y = some (Ptr b off)) (hz : dc L z = some v) (hv : v.cells.toList = vs) (hs : cR P ty = some vs.length)
  (h : ae P x ops mq (i + 1) l L O' K) (hq : x.q = false := by exact rfl)
  (hj : O[j]? = some (b, ⟨sz, false, c⟩) := by first | exact rE 0 rfl | exact rE 1 rfl | exact rE 2 rfl | exact rE 3 rfl | exact rE 4 rfl | exact rE 5 rfl | exact rE 6 rfl | exact rE 7 rfl)
  (hl : off + vs.length ≤ c.length := by first | exact (Nat.le_of_ble_eq_true rfl) | (simp; done) | (simp; omega) | omega) (ha : vs.all cI = true := by exact rfl)
  (hc : dj c off vs = c' := by first | exact gh _ _ _ _ (by first | assumption | omega) | exact rfl)
  (hcl : Clear O j mq.Z := by repeat (first | exact Clear.nil | refine Clear.cons 0 rfl rfl ?_ | refine Clear.cons 1 rfl rfl ?_ | refine Clear.cons 2 rfl rfl ?_ | refine Clear.cons 3 rfl rfl ?_ | refine Clear.cons 4 rfl rfl ?_))
  (hO : O.set j (b, ⟨sz, false, c'⟩) = O' := by simp only [List.cons_append, List.nil_append, List.set_cons_zero, List.set_cons_succ]; exact rfl) :
  ae P x ops mq i ({ dst := none, op := .store ty y z, type := t, pos := p, after := af, guard := gd } :: l) L O K := ae.store j hw hq hy hz hj hv hs hl ha hc hcl hO h
theorem ae.cl {ops : Array Oper} {mq : Mk} {i : Nat} {g : Operand} {aas : Array Operand} {ts : Array TypeId} {dst : Option Tmp} {t : TypeId} {p : String} {af : Array Edge} {gd : Option (Nat × Bool)} {l : List Oper} {K : bN → Prop}
  {f : FuncId} {first cap : Array Value} {vs : List Value} {q : Bool} {O1 : an} {Post : Value → an → Prop}
  (hw : Met x L ops gd) (hf : dc L g = some (.func (.func f) first cap)) (hok : pH P f = true) (ha : gM L aas.toList = some vs) (hO : ∀ h, Sat h O → Sat h O1)
  (hspec : Spec P q f (first.toList ++ vs ++ cap.toList).toArray O1 Post)
  (h : ∀ v O', Post v O' → ae P x ops mq (i + 1) l (sq dst v L) O' K)
  (hq : q = true ∨ (mq.q i = false ∧ x.q = false ∧ mq.Z = []) := by first | exact .inl rfl | exact .inr ⟨rfl, rfl, rfl⟩ | exact .inr ⟨(show o5 _ _ = false from by decide +kernel), rfl, rfl⟩) :
  ae P x ops mq i ({ dst := dst, op := .call { callee := .value g, args := aas, argTypes := ts }, type := t, pos := p, after := af, guard := gd } :: l) L O K := ae.call hw hf hok ha hO hq hspec h
theorem ae.mS {y z : Operand} {ty tz e : TypeId} {a : Option Addr} {n c sz by_ m : Nat} {cs new : List Value} {v zv : Value} {G : an} (A : an) {R : an} (hw : Met x L ops gd) (hy : dc L y = some (.slice a n c)) (hz : dc L z = some v) (hr : fq P tz = true)
  (he : elemOf P ty = some e) (hs : cR P e = some sz) (hby : jR P e = some by_) (hzv : zeroOf P e = some zv)
  (hsrc : Src O sz v m new)
  (h : ∀ a' c' G', Grow sz a' (n + m) c' (cs ++ new) G' → ae P x ops mq (i + 1) l ((d, .slice a' (n + m) c') :: L) (A ++ (G' ++ R)) K)
  (hf : (n + m) * by_ ≤ 140737488355328 := by omega) (hm : new.length = m * sz := by exact rfl)
  (hg : Grow sz a n c cs G := by assumption) (hq : x.q = false := by exact rfl) (hcl : mq.Z = [] := by exact rfl) (hO : O = A ++ (G ++ R) := by exact rfl) (h3 : zv.cells.size = sz := by exact rfl) (h1 : 0 < sz := by decide) (h2 : 0 < by_ := by decide) :
  ae P x ops mq i ({ dst := some d, op := .call { callee := .builtin .append, args := #[y, z], argTypes := #[ty, tz] }, type := t, pos := p, after := af, guard := gd } :: l) L O K :=
 ae.wk A hw hq hy hz hr hcl hO hg hsrc he hs hby hzv h3 hf h1 h2 hm h
theorem ae.qu {y z : Operand} {k : IntKind} {a b r : Int} {w : TypeId} (hw : Met x L ops gd) (hy : dc L y = some (.int k a)) (hz : dc L z = some (.int k b)) (h : ae P x ops mq (i + 1) l ((d, .int k r) :: L) O K)
  (hb : b ≠ 0 := by omega) (hr : k.wrap (a.tdiv b) = r := by first | exact uV (by omega) (by omega) (by omega) | exact rfl) :
  ae P x ops mq i ({ dst := some d, op := .binOp .quo u y z w, type := t, pos := p, after := af, guard := gd } :: l) L O K := ae.quo hw hy hz hb hr h
theorem dH {k : IntKind} {a b : Int} {v : Value} (h : kT .add k a b = some v := by first | exact nH (by omega) (by omega) | exact rfl) : kT .add k a b = some v := h
theorem nj {k : IntKind} {a b : Int} {v : Value} (h : kT .sub k a b = some v := by first | exact nD (by omega) (by omega) | exact rfl) : kT .sub k a b = some v := h
theorem ug {k : IntKind} {a b : Int} {v : Value} (h : kT .mul k a b = some v := by first | exact u7 (by omega) (by omega) | exact rfl) : kT .mul k a b = some v := h
end Go.Proofs.YthekokdpplobhaaGreat.Eng
set_option linter.unusedVariables false
set_option linter.unusedSimpArgs false
namespace Go.Proofs.YthekokdpplobhaaGreat.Eng
variable {P : Program} {x : Cx} {L L' : da} {O O' : an} {ops : Array Oper} {mq : Mk} {i : Nat} {l : List Oper} {K : bN → Prop}
  {t u : TypeId} {p : String} {af : Array Edge} {gd : Option (Nat × Bool)} {d : Tmp}
theorem ae.ap {y z : Operand} {ty tz e : TypeId} {j b off n cp sz by_ m : Nat} {c cs c' : List Value} {v zv : Value} (hw : Met x L ops gd) (hy : dc L y = some (Row b off n cp)) (hz : dc L z = some v) (hr : fq P tz = true)
  (he : elemOf P ty = some e) (hs : cR P e = some sz) (hby : jR P e = some by_) (hzv : zeroOf P e = some zv) (hsrc : Src O sz v m cs)
  {OO : Nat → an} (h : ∀ b, ae P x ops mq (i + 1) l ((d, Row b 0 (n + m) (n + m)) :: L) (OO b) K)
  (hj : O[j]? = some (b, ⟨sz, false, c⟩) := by first | exact rE 0 rfl | exact rE 1 rfl | exact rE 2 rfl | exact rE 3 rfl | exact rE 4 rfl | exact rE 5 rfl | exact rE 6 rfl | exact rE 7 rfl)
  (hl : off + n * sz = c.length := by simp) (hf : (n + m) * by_ ≤ 140737488355328 := by omega) (hc : c.drop off ++ cs = c' := by exact rfl)
  (hcl : Clear O j mq.Z := by repeat (first | exact Clear.nil | refine Clear.cons 0 rfl rfl ?_ | refine Clear.cons 1 rfl rfl ?_ | refine Clear.cons 2 rfl rfl ?_ | refine Clear.cons 3 rfl rfl ?_ | refine Clear.cons 4 rfl rfl ?_))
  (hO : ∀ b, O.set j (b, ⟨sz, false, c'⟩) = OO b := by intro b; simp only [List.cons_append, List.nil_append, List.set_cons_zero, List.set_cons_succ]; exact rfl)
  (hq : x.q = false := by exact rfl) (h3 : zv.cells.size = sz := by exact rfl) (h1 : 0 < sz := by decide) (h2 : 0 < by_ := by decide) :
  ae P x ops mq i ({ dst := some d, op := .call { callee := .builtin .append, args := #[y, z], argTypes := #[ty, tz] }, type := t, pos := p, after := af, guard := gd } :: l) L O K :=
 ae.append j hw hq hy hz hr hj hsrc he hs hby hzv h3 hl hf h1 h2 hc hcl hO h
theorem ae.sM {j e : Nat} {want : Bool} {dst : Tmp} {op : Op} (hj : (ops[j]?).bind (·.dst) = some e) (hd : jQ L e = some undef)
  (h : ae P x ops mq (i + 1) l ((dst, undef) :: L) O K) : ae P x ops mq i ({ dst := some dst, op := op, type := t, pos := p, after := af, guard := some (j, want) } :: l) L O K := by
 intro hdr hq s hs hz
 obtain ⟨ho, hd'⟩ := fZ hdr
 obtain ⟨s', g1, g2, g3⟩ := h hd' hq (s.put (some dst) undef s.h) ⟨hs.m, hs.t.put _ _ _, hs.sat, hs.old⟩ hz
 refine ⟨s', .iH ho ?_ g1, by rw [g2, dR], g3⟩
 unfold cv Region.wanted
 simp only [hj, hs.t e _ hd]
 rfl
theorem yx {o : BinOp} {u : TypeId} {y z : Operand} {w : TypeId} {s : bN} {a b : Value} {r : Bool} (ho : (o = .eql ∧ r = false) ∨ (o = .neq ∧ r = true)) (hy : s.ev y = a) (hz : s.ev z = b) (hn : (aX a && aX b) = false) (hq : fV P u a b = true) :
  eg P { dst := some d, op := .binOp o u y z w, type := t, pos := p, after := af, guard := gd } s = some (.bool r, s.h) := by
 have hall : (#[y, z].all fun x => aX (s.ev x)) = false := by simp only [← Array.all_toList, List.all_cons, List.all_nil, hy, hz, Bool.and_true]; exact hn
 unfold eg
 simp only
 unfold eC
 simp only [Op.operands, hall, Bool.false_eq_true, if_false]
 unfold oh
 rcases ho with ⟨rfl, rfl⟩ | ⟨rfl, rfl⟩ <;> simp only [hy, hz, hq, if_true, Option.map_some]
theorem yw {o : BinOp} {y z : Operand} {a b : Value} {r : Bool} (ho : o = .eql ∨ o = .neq) (hp : (∃ n c m k, a = .slice none n c ∧ b = .slice none m k ∧ ∃ e, P.underlying u = some (.slice e)) ∨ (a = .pointer none ∧ b = .pointer none ∧ ∃ e, P.underlying u = some (.pointer e))) (hr : r = decide (o = .eql)) :
  bI P (do eqGuard o u y z a b; binOp o u a b) = some (.bool r) := by
 subst hr
 have heq : ∀ x y : Value, ((∃ n c m k, x = .slice none n c ∧ y = .slice none m k ∧ ∃ e, P.underlying u = some (.slice e)) ∨ (x = .pointer none ∧ y = .pointer none ∧ ∃ e, P.underlying u = some (.pointer e))) → bI P (Op.equalIn (9999 + 1) u x y) = some true := by
  intro x y hx
  rcases hx with ⟨n, c, m, k, rfl, rfl, e, hu⟩ | ⟨rfl, rfl, e, hu⟩ <;> (unfold Op.equalIn; rw [bj, fh hu]; rfl)
 have h := heq a b hp
 rcases hp with ⟨n, c, m, k, rfl, rfl, e, hu⟩ | ⟨rfl, rfl, e, hu⟩
 · rcases ho with rfl | rfl
   · show bI P (Op.equalIn (9999 + 1) u _ _ >>= fun r => (pure (Value.bool r) : Sem Value)) = _
     rw [bj, h]; rfl
   · show bI P (Op.equalIn (9999 + 1) u _ _ >>= fun r => (pure (Value.bool (!r)) : Sem Value)) = _
     rw [bj, h]; rfl
 · rcases ho with rfl | rfl
   · show bI P (Op.equalIn (9999 + 1) u _ _ >>= fun r => (pure (Value.bool r) : Sem Value)) = _
     rw [bj, h]; rfl
   · show bI P (Op.equalIn (9999 + 1) u _ _ >>= fun r => (pure (Value.bool (!r)) : Sem Value)) = _
     rw [bj, h]; rfl
theorem ae.yA {y z : Operand} {a : Option Addr} {n c m k : Nat} {w e : TypeId} (hw : Met x L ops gd) (hy : dc L y = some (.slice a n c)) (hz : dc L z = some (.slice none m k)) (hu : P.underlying u = some (.slice e)) (h : ae P x ops mq (i + 1) l ((d, .bool a.isNone) :: L) O K) :
  ae P x ops mq i ({ dst := some d, op := .binOp .eql u y z w, type := t, pos := p, after := af, guard := gd } :: l) L O K := by
 cases a with
 | none => exact ae.val (.inl rfl) hw (fun s hs => gv (hs.t.ev hy) (hs.t.ev hz) rfl rfl (yw (.inl rfl) (.inl ⟨_, _, _, _, rfl, rfl, e, hu⟩) rfl) rfl) h
 | some a => exact ae.val (.inl rfl) hw (fun s hs => yx (.inl ⟨rfl, rfl⟩) (hs.t.ev hy) (hs.t.ev hz) rfl (by unfold fV; rw [hu])) h
theorem ae.ly {y z : Operand} {a : Option Addr} {w e : TypeId} (hw : Met x L ops gd) (hy : dc L y = some (.pointer a)) (hz : dc L z = some (.pointer none)) (hu : P.underlying u = some (.pointer e)) (h : ae P x ops mq (i + 1) l ((d, .bool a.isNone) :: L) O K) :
  ae P x ops mq i ({ dst := some d, op := .binOp .eql u y z w, type := t, pos := p, after := af, guard := gd } :: l) L O K := by
 cases a with
 | none => exact ae.val (.inl rfl) hw (fun s hs => gv (hs.t.ev hy) (hs.t.ev hz) rfl rfl (yw (.inl rfl) (.inr ⟨rfl, rfl, e, hu⟩) rfl) rfl) h
 | some a => exact ae.val (.inl rfl) hw (fun s hs => yx (.inl ⟨rfl, rfl⟩) (hs.t.ev hy) (hs.t.ev hz) rfl (by unfold fV; rw [hu])) h
theorem ae.nn {y z : Operand} {ty e : TypeId} {a : Option Addr} {n c sz m : Nat} {cs : List Value} {k : IntKind} {j : Int} (hw : Met x L ops gd) (hy : dc L y = some (.slice a n c)) (hz : dc L z = some (.int k j))
  (he : elemOf P ty = some e) (hs : cR P e = some sz) {b off : Nat} {q : gl} (ha : a = some ⟨b, off, none⟩) (hk : aU O b q) (hq : q.sz = sz) (h : ae P x ops mq (i + 1) l ((d, .slice (some ⟨b, off + m * sz, none⟩) (n - m) (n - m)) :: L) O K) (hj : j = m := by omega) (hm : m ≤ n := by omega) :
  ae P x ops mq i ({ dst := some d, op := .slice ty y (some z) none none, type := t, pos := p, after := af, guard := gd } :: l) L O K :=
 ae.val (.inl rfl) hw (fun s hst => by
  subst hj ha
  have hb : dJ (some (Value.int k (m : Int))) 0 = some m := by simp [dJ]
  obtain ⟨f, kk, ho⟩ := hk _ hst.sat
  simp only [eg, hst.t.ev hy, Option.map_none, Option.map_some, hst.t.ev hz, jx, he, Option.bind_some, hs, hb, ho]
  rw [show dJ none n = some n from rfl]
  simp only [Nat.le_refl, hm, hq, and_self, if_true, Option.map_some]) h
def bK (O : an) (sz : Nat) (a : Option Addr) (n : Nat) (cs : List Value) : Prop :=
 (a = none ∧ n = 0 ∧ cs = []) ∨ ∃ b off y, a = some ⟨b, off, none⟩ ∧ aU O b y ∧ y.sz = sz ∧ off + n * sz ≤ y.c.length ∧ (y.c.drop off).take (n * sz) = cs
theorem bK.src {sz : Nat} {a : Option Addr} {n : Nat} {cs : List Value} (h : bK O sz a n cs) {c : Nat} (hc : a = none → c = 0) : Src O sz (.slice a n c) n cs := by
 rcases h with ⟨rfl, rfl, rfl⟩ | ⟨b, off, y, rfl, hk, hs, hl, hcs⟩
 · rw [hc rfl]; exact Src.nil
 · exact Src.of hk hl hcs
theorem bK.pre {sz : Nat} {a : Option Addr} {n m : Nat} {cs : List Value} (h : bK O sz a n cs) (hm : m ≤ n) : bK O sz a m (cs.take (m * sz)) := by
 have hmn : m * sz ≤ n * sz := Nat.mul_le_mul_right _ hm
 rcases h with ⟨rfl, rfl, rfl⟩ | ⟨b, off, y, rfl, hk, hs, hl, hcs⟩
 · exact .inl ⟨rfl, by omega, by simp⟩
 · refine .inr ⟨b, off, y, rfl, hk, hs, by omega, ?_⟩
   rw [← hcs, List.take_take, Nat.min_eq_left hmn]
theorem Grow.oK {sz : Nat} {a : Option Addr} {n c : Nat} {cs : List Value} {G R : an} (hg : Grow sz a n c cs G) : bK (G ++ R) sz a n cs := by
 rcases hg with ⟨rfl, rfl, rfl, rfl, rfl⟩ | ⟨b, rfl, rfl, hl⟩
 · exact .inl ⟨rfl, rfl, rfl⟩
 · refine .inr ⟨b, 0, ⟨sz, false, cs⟩, rfl, aU.at 0 rfl, rfl, ?_, ?_⟩
   · show 0 + n * sz ≤ cs.length
     omega
   · show (cs.drop 0).take (n * sz) = cs
     rw [List.drop_zero, List.take_of_length_le (by omega)]
theorem Grow.eh {sz : Nat} {a : Option Addr} {n c : Nat} {cs : List Value} {G : an} (hg : Grow sz a n c cs G) (h : a = none) : c = 0 ∧ n = 0 := by
 rcases hg with ⟨_, q1, q2, _⟩ | ⟨b, q, _⟩
 · exact ⟨q2, q1⟩
 · rw [h] at q; cases q
theorem bK.eh {sz : Nat} {a : Option Addr} {n : Nat} {cs : List Value} (hr : bK O sz a n cs) (h : a = none) : n = 0 := by
 rcases hr with ⟨_, q1, _⟩ | ⟨b, off, y, q, _⟩
 · exact q1
 · rw [h] at q; cases q
theorem bK.cons {q : Nat × gl} {sz n : Nat} {a : Option Addr} {cs : List Value} (h : bK O sz a n cs) : bK (q :: O) sz a n cs := by
 rcases h with h | ⟨b, off, y, h1, h2, h3⟩
 · exact .inl h
 · exact .inr ⟨b, off, y, h1, h2.cons, h3⟩
theorem bK.app {N : an} {sz n : Nat} {a : Option Addr} {cs : List Value} (h : bK O sz a n cs) : bK (N ++ O) sz a n cs := by
 rcases h with h | ⟨b, off, y, h1, h2, h3⟩
 · exact .inl h
 · exact .inr ⟨b, off, y, h1, aU.app h2, h3⟩
theorem ae.pre {y z : Operand} {ty e : TypeId} {a : Option Addr} {n c sz m : Nat} {cs : List Value} {k : IntKind} {j : Int} (hw : Met x L ops gd) (hy : dc L y = some (.slice a n c)) (hz : dc L z = some (.int k j))
  (he : elemOf P ty = some e) (hs : cR P e = some sz) (hr : bK O sz a n cs) (hc : a = none → c = 0) (h : ae P x ops mq (i + 1) l ((d, .slice a m m) :: L) O K) (hj : j = m := by omega) (hm : m ≤ n := by omega) :
  ae P x ops mq i ({ dst := some d, op := .slice ty y none (some z) none, type := t, pos := p, after := af, guard := gd } :: l) L O K :=
 ae.val (.inl rfl) hw (fun s hst => by
  subst hj
  have hb : dJ (some (Value.int k (m : Int))) n = some m := by simp [dJ]
  rcases hr with ⟨rfl, rfl, rfl⟩ | ⟨b, off, q, rfl, hk, hq, hl, hcs⟩
  · have hm0 : m = 0 := by omega
    subst hm0
    have hc0 := hc rfl
    subst hc0
    simp only [eg, hst.t.ev hy, Option.map_none, Option.map_some, hst.t.ev hz, jx, he, Option.bind_some, hs, hb]
    rfl
  · obtain ⟨f, kk, ho⟩ := hk _ hst.sat
    simp only [eg, hst.t.ev hy, Option.map_none, Option.map_some, hst.t.ev hz, jx, he, Option.bind_some, hs, hb, ho]
    rw [show dJ none 0 = some 0 from rfl]
    simp only [Nat.zero_le, hm, hq, and_self, if_true, Nat.zero_mul, Nat.add_zero, Nat.sub_zero, Option.map_some]) h
end Go.Proofs.YthekokdpplobhaaGreat.Eng
