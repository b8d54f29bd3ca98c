/- A stretch of operations none of which turns an object, in whatever order. Own work; no condition. -/
import Derived.Test.YtjmklialkjncaaaEngN
set_option linter.unusedVariables false
set_option linter.unusedSimpArgs false
namespace Go.Proofs.Ytjmklialkjncaaa.Eng

variable {P : Program} {base : Nat} {ι ι1 ι2 : Lay} {h h' h1 h2 : AHeap} {w w1 w2 : World}

def Lay.cut (ι : Lay) (n : Nat) : Lay := fun b => if b < n then ι b else none

theorem cut_some {n b : Nat} {e : Ext} (h : ι.cut n b = some e) : b < n ∧ ι b = some e := by
  unfold Lay.cut at h
  split at h
  · exact ⟨by assumption, h⟩
  · cases h
theorem cut_mk {n b : Nat} {e : Ext} (h : b < n) (h' : ι b = some e) : ι.cut n b = some e := by unfold Lay.cut; rw [if_pos h]; exact h'

theorem Quiet.refl (h : AHeap) : Quiet h h := ⟨Nat.le_refl _, fun _ _ => .inl rfl⟩
theorem Quiet.trans (a : Quiet h h1) (b : Quiet h1 h2) : Quiet h h2 := by
  refine ⟨Nat.le_trans a.1 b.1, fun y hy => ?_⟩
  rcases a.2 y hy with q | ⟨sz, f, k, c, m, q1, q2, q3⟩ <;> rcases b.2 y (Nat.lt_of_lt_of_le hy a.1) with r | ⟨sz', f', k', c', m', r1, r2, r3⟩
  · exact .inl (by rw [r, q])
  · exact .inr ⟨sz', f', k', c', m', by rw [← q]; exact r1, r2, Nat.le_trans a.1 r3⟩
  · exact .inr ⟨sz, f, k, c, m, q1, by rw [r]; exact q2, q3⟩
  · rw [q2] at r1; cases r1

/-- What an object is behind quiet steps. -/
theorem Quiet.is (a : Quiet h h') {y : Nat} (hy : y < h.n) {sz ro f st k c} (ho : h.o y = .cells sz ro f st k c) : ∃ st', h'.o y = .cells sz ro f st' k c ∧ (st' = st ∨ (st = none ∧ ro = false ∧ ∃ m, st' = some m ∧ h.n ≤ m)) := by
  rcases a.2 y hy with q | ⟨sz', f', k', c', m, q1, q2, q3⟩
  · exact ⟨st, by rw [q]; exact ho, .inl rfl⟩
  · rw [ho] at q1
    injection q1 with e1 e2 e3 e4 e5 e6
    subst e1 e2 e3 e4 e5 e6
    exact ⟨some m, q2, .inr ⟨rfl, rfl, m, rfl, q3⟩⟩
theorem Quiet.was (a : Quiet h h') {y : Nat} (hy : y < h.n) {sz ro f st k c} (ho : h'.o y = .cells sz ro f st k c) : ∃ st', h.o y = .cells sz ro f st' k c ∧ (st = st' ∨ (st' = none ∧ ro = false ∧ ∃ m, st = some m ∧ h.n ≤ m)) := by
  rcases a.2 y hy with q | ⟨sz', f', k', c', m, q1, q2, q3⟩
  · exact ⟨st, by rw [← q]; exact ho, .inl rfl⟩
  · rw [ho] at q2
    injection q2 with e1 e2 e3 e4 e5 e6
    subst e1 e2 e3 e4 e5 e6
    exact ⟨none, q1, .inr ⟨rfl, rfl, m, rfl, q3⟩⟩
theorem Quiet.evo (a : Quiet h h') {y : Nat} (hy : y < h.n) : Evo (h.o y) (h'.o y) := by
  rcases a.2 y hy with q | ⟨sz, f, k, c, m, q1, q2, q3⟩
  · rw [q]; exact Evo.refl _
  · rw [q1, q2]; exact ⟨some m, k, c, rfl, Nat.le_refl _, fun _ => rfl, rfl, fun m' e => by cases e⟩
/-- What can be read behind quiet steps could be read. -/
theorem Quiet.rd (a : Quiet h h') (hwf : ∀ b sz ro f m k c, h.o b = .cells sz ro f (some m) k c → m < h.n) {y : Nat} (hy : y < h.n) {c : List Value} (hc : h'.rd y = some c) : h.rd y = some c := by
  rcases rd_cases hc with ⟨sz, ro, f, k, q⟩ | ⟨sz, ro, f, m, k, sz', ro', f', c', q1, q2⟩
  · obtain ⟨st', r1, r2 | ⟨_, _, m, r2, _⟩⟩ := a.was hy q
    · subst r2; unfold AHeap.rd; rw [r1]
    · cases r2
  · obtain ⟨st', r1, r2 | ⟨r2, _⟩⟩ := a.was hy q1
    · subst r2
      obtain ⟨st2, s1, s2 | ⟨_, _, m2, s2, _⟩⟩ := a.was (hwf y _ _ _ _ _ _ r1) q2
      · subst s2; unfold AHeap.rd; rw [r1]; simp only; rw [s1]; rfl
      · cases s2
    · subst r2; unfold AHeap.rd; rw [r1]

structure QInv (base : Nat) (G : Nat → AHeap) (m R : Nat) (E : Nat → Prop) (ιm : Lay) (wm : World) (ι : Lay) (w : World) : Prop where
  old : ∀ y, y < (G m).n → ι y = ιm y
  dom : ∀ y e, ι y = some e → y < (G m).n ∨ ∃ q, m ≤ q ∧ q < R ∧ E q ∧ (G q).n ≤ y ∧ y < (G (q + 1)).n
  rel : ∀ i, m ≤ i → i ≤ R → HRel base (ι.cut (G i).n) (G i) w
  fam : ∀ p x e f sz1 ro1 st1 k1 c1 sz2 ro2 st2 k2 c2, (G R).o p = .cells sz1 ro1 f st1 k1 c1 → (G R).o x = .cells sz2 ro2 f st2 k2 c2 → p < x → (G m).n ≤ p → ι x = some e → ∃ e', ι p = some e'
  full : ∀ q, m ≤ q → q < R → E q → ∀ y, (G q).n ≤ y → y < (G (q + 1)).n → ∃ e, ι y = some e
  new : ∀ b e, (G m).n ≤ b → ι b = some e → wm.heap.size ≤ e.block ∨ ∃ b0 e0 sz ro f st k c, ιm b0 = some e0 ∧ (G R).o b0 ≠ (G m).o b0 ∧ e.block = e0.block ∧ e0.off ≤ e.off ∧ e.off + e.cap ≤ e0.off + e0.cap ∧
    (G m).o b0 = .cells sz ro f st k c ∧ ∃ sz' ro' st' k' c', (G R).o b = .cells sz' ro' f st' k' c'
  famn : ∀ b e sz ro f st k c, (G m).n ≤ b → ι b = some e → (G R).o b = .cells sz ro f st k c → (G m).n ≤ f ∨ ∃ b0 e0 sz0 ro0 st0 k0 c0, ιm b0 = some e0 ∧ (G m).o b0 = .cells sz0 ro0 f st0 k0 c0 ∧ (G R).o b0 ≠ (G m).o b0
  keep : Keep0 ιm (G m) (G R) wm w

section
variable {G : Nat → AHeap} {m R : Nat} {E : Nat → Prop} {ιm : Lay} {wm : World}

theorem chain (hq : ∀ i, m ≤ i → i < R → Quiet (G i) (G (i + 1))) : ∀ j i, m ≤ i → i ≤ j → j ≤ R → Quiet (G i) (G j) := by
  intro j
  induction j with
  | zero =>
    intro i _ h1 _
    have e : i = 0 := by omega
    rw [e]; exact Quiet.refl _
  | succ j ih =>
    intro i h1 h2 h3
    rcases Nat.lt_or_ge i (j + 1) with q | q
    · exact (ih i h1 (by omega) (by omega)).trans (hq j (by omega) (by omega))
    · obtain rfl : i = j + 1 := by omega
      exact Quiet.refl _

theorem QInv.start (hr : HRel base ιm (G m) wm) (hq : ∀ i, m ≤ i → i < R → Quiet (G i) (G (i + 1))) (hmR : m ≤ R) (hwf : ∀ i, m ≤ i → i ≤ R → WF (G i)) :
    QInv base G m R (fun _ => False) ιm wm ιm wm := by
  have hlt := hr.lt
  refine ⟨fun _ _ => rfl, fun y e he => .inl (hlt y e he), fun i h1 h2 => ?_, ?_, fun _ _ _ h => h.elim, fun b e hb he => absurd (hlt b e he) (by omega), fun b e _ _ _ _ _ _ hb he => absurd (hlt b e he) (by omega), KeepsBy.zero ?_⟩
  · have qc := chain hq i m (Nat.le_refl _) h1 h2
    obtain ⟨w1, w2, w3, w4⟩ := hwf i h1 h2
    have cs : ∀ b e, ιm.cut (G i).n b = some e → ιm b = some e ∧ b < (G m).n := fun b e hb => ⟨(cut_some hb).2, hlt b e (cut_some hb).2⟩
    refine ⟨fun b e hb => (cut_some hb).1, fun b e hb => hr.blk b e (cs b e hb).1, ?_, ?_, ?_, ?_, ?_, w1, w2, w3, w4⟩
    · intro b e sz ro f st k c hb ho
      obtain ⟨c1, c2⟩ := cs b e hb
      obtain ⟨st', q, _⟩ := qc.was c2 ho
      exact hr.szs b e _ _ _ _ _ _ c1 q
    · intro b e c i v hb hc hi
      obtain ⟨c1, c2⟩ := cs b e hb
      obtain ⟨v', q1, q2⟩ := hr.val b e c i v c1 (qc.rd (fun b _ _ _ _ _ _ h => (hr.wf b _ _ _ _ _ _ h).1) c2 hc) hi
      exact ⟨v', q1, q2.mono fun b e hb => cut_mk (Nat.lt_of_lt_of_le (hlt b e hb) qc.1) hb⟩
    · intro b e sz f st k c i hb ho hi
      obtain ⟨c1, c2⟩ := cs b e hb
      obtain ⟨st', q, _⟩ := qc.was c2 ho
      exact hr.room b e _ _ _ _ _ i c1 q hi
    · intro b1 e1 b2 e2 sz1 ro1 f1 st1 k1 c1 sz2 f2 st2 k2 c2 h1 h2 o1 o2
      obtain ⟨a1, a2⟩ := cs _ _ h1
      obtain ⟨d1, d2⟩ := cs _ _ h2
      obtain ⟨_, q1, _⟩ := qc.was a2 o1
      obtain ⟨_, q2, _⟩ := qc.was d2 o2
      exact hr.apart b1 e1 b2 e2 _ _ _ _ _ _ _ _ _ _ _ a1 d1 q1 q2
    · intro b1 e1 b2 e2 f1 sz1 ro1 st1 k1 c1 sz2 ro2 st2 k2 c2 h1 h2 o1 o2
      obtain ⟨a1, a2⟩ := cs _ _ h1
      obtain ⟨d1, d2⟩ := cs _ _ h2
      obtain ⟨_, q1, _⟩ := qc.was a2 o1
      obtain ⟨_, q2, _⟩ := qc.was d2 o2
      exact hr.link b1 e1 b2 e2 _ _ _ _ _ _ _ _ _ _ _ a1 d1 q1 q2
  · intro p x e f _ _ _ _ _ _ _ _ _ _ _ _ hpx hp hx
    have := hlt x e hx
    omega
  · exact ⟨rfl, rfl, rfl, Nat.le_refl _, fun _ _ _ => rfl, fun _ _ _ h _ => h, fun _ _ v h => ⟨⟨v, h⟩, rfl⟩⟩

end
end Go.Proofs.Ytjmklialkjncaaa.Eng
