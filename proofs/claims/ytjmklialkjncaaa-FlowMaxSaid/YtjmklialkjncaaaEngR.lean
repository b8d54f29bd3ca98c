/- Regions that draw their order: every order comes to what the text's order comes to. Own work; no condition. -/
import Derived.Test.YtjmklialkjncaaaEngQ
set_option linter.unusedVariables false
set_option linter.unusedSimpArgs false
namespace Go.Proofs.Ytjmklialkjncaaa.Eng

variable {P : Program} {base : Nat} {ι : Lay} {w w' : World} {G : Nat → AHeap} {m R : Nat} {E : Nat → Prop} {ιm : Lay} {wm : World}

def deadHeap (n : Nat) : AHeap := { n := n, o := fun _ => .dead }

/-- The world has turned nothing that was there. -/
structure Calm (w w' : World) : Prop where
  os : w'.os = w.os
  tape : w'.tape = w.tape
  output : w'.output = w.output
  size : w.heap.size ≤ w'.heap.size
  block : ∀ B, B < w.heap.size → w'.heap[B]? = w.heap[B]?
  cell : ∀ B off v, w.cell? ⟨B, off, none⟩ = some v → w'.cell? ⟨B, off, none⟩ = some v
  frozen : ∀ B off v, w.cell? ⟨B, off, none⟩ = some v → w'.frozen? ⟨B, off, none⟩ = w.frozen? ⟨B, off, none⟩

theorem HRel.calm {h : AHeap} (hr : HRel base ι h w) (hc : Calm w w') : HRel base ι h w' :=
  ⟨hr.lt, fun b e hb => Nat.lt_of_lt_of_le (hr.blk b e hb) hc.size, hr.szs, fun b e c i v hb hc' hi => by
    obtain ⟨v', h1, h2⟩ := hr.val b e c i v hb hc' hi
    exact ⟨v', hc.cell _ _ _ h1, h2⟩, fun b e sz f st k c i hb ho hi => by
    obtain ⟨⟨v, hv⟩, hf⟩ := hr.room b e _ _ _ _ _ i hb ho hi
    exact ⟨⟨v, hc.cell _ _ _ hv⟩, by rw [hc.frozen _ _ _ hv]; exact hf⟩, hr.apart, hr.link, hr.wf, hr.fam, hr.uniq, hr.out⟩

theorem deadRel {n : Nat} (hn : ∀ b e, ι b = some e → b < n) (hb : ∀ b e, ι b = some e → e.block < w.heap.size) : HRel base ι (deadHeap n) w :=
  ⟨hn, hb, fun _ _ _ _ _ _ _ _ _ h => (by cases h), fun _ _ _ _ _ _ h => (by cases h), fun _ _ _ _ _ _ _ _ _ h => (by cases h), fun _ _ _ _ _ _ _ _ _ _ _ _ _ _ _ _ _ h => (by cases h),
    fun _ _ _ _ _ _ _ _ _ _ _ _ _ _ _ _ _ h => (by cases h), fun _ _ _ _ _ _ _ h => (by cases h), fun _ _ _ _ _ _ _ h => (by cases h), fun _ _ _ _ _ _ _ _ _ _ _ _ h => (by cases h), fun _ _ => rfl⟩

theorem Keeps.calm {h : AHeap} (hk : Keeps ι h h w w') : Calm w w' :=
  ⟨hk.os, hk.tape, hk.output, hk.size, fun B hB => hk.block B hB fun _ _ _ _ => rfl, fun B off v hc => hk.cell B off v hc fun _ _ _ _ _ _ => .inl rfl, fun B off v hc => (hk.there B off v hc).2⟩

theorem Keep0.calm {h h' : AHeap} {w0 : World} (hk : Keep0 ι h h' w0 w) (hc : Calm w w') : Keep0 ι h h' w0 w' :=
  ⟨hc.os.trans hk.os, hc.tape.trans hk.tape, hc.output.trans hk.output, Nat.le_trans hk.size hc.size, fun B hB hall => by
    rw [hc.block B (Nat.lt_of_lt_of_le hB hk.size)]; exact hk.block B hB hall, fun B off v h hall => hc.cell _ _ _ (hk.cell B off v h hall), fun B off v h => by
    obtain ⟨⟨v', hv'⟩, hf⟩ := hk.there B off v h
    exact ⟨⟨v', hc.cell _ _ _ hv'⟩, by rw [hc.frozen _ _ _ hv']; exact hf⟩⟩

theorem QInv.calm (hQ : QInv base G m R E ιm wm ι w) (hc : Calm w w') : QInv base G m R E ιm wm ι w' :=
  ⟨hQ.old, hQ.dom, fun i h1 h2 => (hQ.rel i h1 h2).calm hc, hQ.fam, hQ.full, hQ.new, hQ.famn, Keep0.calm hQ.keep hc⟩

theorem QInv.congr {E' : Nat → Prop} (hQ : QInv base G m R E ιm wm ι w) (he : ∀ q, m ≤ q → q < R → (E q ↔ E' q)) : QInv base G m R E' ιm wm ι w :=
  ⟨hQ.old, fun y e hy => by
    rcases hQ.dom y e hy with h | ⟨q, h1, h2, h3, h4⟩
    · exact .inl h
    · exact .inr ⟨q, h1, h2, (he q h1 h2).1 h3, h4⟩, hQ.rel, hQ.fam, fun q h1 h2 h3 => hQ.full q h1 h2 ((he q h1 h2).2 h3), hQ.new, hQ.famn, hQ.keep⟩

theorem Calm.drawn (w : World) (n : Nat) : Calm w { w with drawn := n } :=
  ⟨rfl, rfl, rfl, Nat.le_refl _, fun _ _ => rfl, fun _ _ _ h => h, fun _ _ _ _ => rfl⟩

theorem QInv.lt (hQ : QInv base G m R E ιm wm ι w) (hq : ∀ i, m ≤ i → i < R → Quiet (G i) (G (i + 1))) (hmR : m ≤ R) {y : Nat} {e : Ext} (hy : ι y = some e) : y < (G R).n := by
  rcases hQ.dom y e hy with h | ⟨q, h1, h2, _, _, h4⟩
  · exact Nat.lt_of_lt_of_le h (chain hq R m (Nat.le_refl _) hmR (Nat.le_refl _)).1
  · exact Nat.lt_of_lt_of_le h4 (chain hq R (q + 1) (by omega) (by omega) (Nat.le_refl _)).1

/-- The stretch is done: its layout is the one of its last heap. -/
theorem QInv.done (hQ : QInv base G m R E ιm wm ι w) (hq : ∀ i, m ≤ i → i < R → Quiet (G i) (G (i + 1))) (hmR : m ≤ R) (hall : ∀ q, m ≤ q → q < R → E q ∨ G (q + 1) = G q) :
    HRel base ι (G R) w ∧ More base ιm ι (G m) (G R) wm := by
  have hcut : ι.cut (G R).n = ι := by
    funext y
    unfold Lay.cut
    split
    · rfl
    · cases hy : ι y with
      | none => rfl
      | some e => exact absurd (hQ.lt hq hmR hy) (by assumption)
  have hr := hQ.rel R hmR (Nat.le_refl _)
  rw [hcut] at hr
  have hfull : ∀ j, m ≤ j → j ≤ R → ∀ b, (G m).n ≤ b → b < (G j).n → ∃ e, ι b = some e := by
    intro j
    induction j with
    | zero =>
      intro h1 _ b h2 h3
      have e : m = 0 := by omega
      subst e; omega
    | succ j ih =>
      intro h1 h2 b h3 h4
      rcases Nat.lt_or_ge j m with q | q
      · have e : m = j + 1 := by omega
        subst e; omega
      · rcases Nat.lt_or_ge b (G j).n with r | r
        · exact ih q (by omega) b h3 r
        · rcases hall j q (by omega) with s | s
          · exact hQ.full j q (by omega) s b r h4
          · rw [s] at h4; omega
  exact ⟨hr, ⟨hQ.old, hQ.new, fun b sz ro f st k c hb ho => by
    obtain ⟨e, he⟩ := hfull R hmR (Nat.le_refl _) b hb (hr.heapWF.lt ho)
    exact hQ.famn b e _ _ _ _ _ _ hb he ho, hfull R hmR (Nat.le_refl _), fun b hb => (chain hq R m (Nat.le_refl _) hmR (Nat.le_refl _)).evo hb, (chain hq R m (Nat.le_refl _) hmR (Nat.le_refl _)).1⟩⟩

theorem with_old (hQ : QInv base G m R E ιm wm ι w) (hq : ∀ i, m ≤ i → i < R → Quiet (G i) (G (i + 1))) {q : Nat} (h1 : m ≤ q) (h2 : q < R) (hE : ¬ E q) (κ : Lay) {y : Nat} {e : Ext} (hy : ι y = some e) :
    (ι.with κ (G q).n (G (q + 1)).n) y = some e := by
  have nle : ∀ i j, m ≤ i → i ≤ j → j ≤ R → (G i).n ≤ (G j).n := fun i j a b c => (chain hq j i a b c).1
  have hmq := nle m q (Nat.le_refl _) h1 (by omega)
  unfold Lay.with
  rw [if_neg]
  · exact hy
  · rintro ⟨a, b⟩
    rcases hQ.dom y e hy with c | ⟨q2, c1, c2, c3, c4, c5⟩
    · omega
    · rcases Nat.lt_trichotomy q2 q with d | d | d
      · have := nle (q2 + 1) q (by omega) (by omega) (by omega); omega
      · subst d; exact hE c3
      · have := nle (q + 1) q2 (by omega) (by omega) (by omega); omega

theorem with_new {q : Nat} {κ : Lay} (hm : More base (ι.cut (G q).n) κ (G q) (G (q + 1)) w) (hr : HRel base κ (G (q + 1)) w') {y : Nat} {e : Ext} (hy : κ y = some e) :
    (ι.with κ (G q).n (G (q + 1)).n) y = some e := by
  unfold Lay.with
  split
  · exact hy
  · rename_i hn
    have := hr.lt y e hy
    have h2 := hm.old y (by omega)
    rw [hy] at h2
    exact (cut_some h2.symm).2

end Go.Proofs.Ytjmklialkjncaaa.Eng
