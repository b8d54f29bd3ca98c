/- One operation of a quiet stretch, whenever it comes up. Own work; no condition. -/
import Derived.Test.YtjmklialkjncaaaEngO
set_option linter.unusedVariables false
set_option linter.unusedSimpArgs false
namespace Go.Proofs.Ytjmklialkjncaaa.Eng

variable {P : Program} {base : Nat} {ι : Lay} {w w' : World} {G : Nat → AHeap} {m R : Nat} {E : Nat → Prop} {ιm : Lay} {wm : World}

/-- The layout with what operation `q` has made. -/
def Lay.with (ι κ : Lay) (a b : Nat) : Lay := fun y => if a ≤ y ∧ y < b then κ y else ι y

theorem QInv.step (hQ : QInv base G m R E ιm wm ι w) (hq : ∀ i, m ≤ i → i < R → Quiet (G i) (G (i + 1))) (hwf : ∀ i, m ≤ i → i ≤ R → WF (G i)) {q : Nat} (h1 : m ≤ q) (h2 : q < R) (hE : ¬ E q) {κ : Lay}
    (hm : More base (ι.cut (G q).n) κ (G q) (G (q + 1)) w) (hr : HRel base κ (G (q + 1)) w') (hk : Keeps (ι.cut (G q).n) (G q) (G (q + 1)) w w') :
    QInv base G m R (fun i => E i ∨ i = q) ιm wm (ι.with κ (G q).n (G (q + 1)).n) w' := by
  have ch := fun i j (a : m ≤ i) (b : i ≤ j) (c : j ≤ R) => chain hq j i a b c
  have nle : ∀ i j, m ≤ i → i ≤ j → j ≤ R → (G i).n ≤ (G j).n := fun i j a b c => (ch i j a b c).1
  have hqq := hq q h1 h2
  have hnq : (G q).n ≤ (G (q + 1)).n := hqq.1
  have hmq := nle m q (Nat.le_refl _) h1 (by omega)
  have hqR := nle (q + 1) R (by omega) (by omega) (Nat.le_refl _)
  have hsz := hk.size
  have Wm := hwf m (Nat.le_refl _) (by omega)
  have Wq := hwf q h1 (by omega)
  have WR := hwf R (by omega) (Nat.le_refl _)
  -- the ids of operation q are not in the layout yet
  have hnone : ∀ y e, ι y = some e → ¬ ((G q).n ≤ y ∧ y < (G (q + 1)).n) := by
    rintro y e hy ⟨a, b⟩
    rcases hQ.dom y e hy with c | ⟨q2, c1, c2, c3, c4, c5⟩
    · omega
    · rcases Nat.lt_trichotomy q2 q with d | d | d
      · have := nle (q2 + 1) q (by omega) (by omega) (by omega); omega
      · subst d; exact hE c3
      · have := nle (q + 1) q2 (by omega) (by omega) (by omega); omega
  have hκ : ∀ y e, κ y = some e → y < (G (q + 1)).n := hr.lt
  have hκold : ∀ y, y < (G q).n → κ y = ι y := fun y hy => by rw [hm.old y hy]; unfold Lay.cut; rw [if_pos hy]
  -- the new layout
  have hw_old : ∀ y e, ι y = some e → (ι.with κ (G q).n (G (q + 1)).n) y = some e := fun y e hy => by unfold Lay.with; rw [if_neg (hnone y e hy)]; exact hy
  have hw_κ : ∀ y e, κ y = some e → (ι.with κ (G q).n (G (q + 1)).n) y = some e := by
    intro y e hy
    unfold Lay.with
    split
    · exact hy
    · rename_i hn
      have := hκ y e hy
      rw [← hκold y (by omega)]; exact hy
  have hw_case : ∀ y e, (ι.with κ (G q).n (G (q + 1)).n) y = some e → ((G q).n ≤ y ∧ y < (G (q + 1)).n ∧ κ y = some e) ∨ (¬ ((G q).n ≤ y ∧ y < (G (q + 1)).n) ∧ ι y = some e) := by
    intro y e hy
    unfold Lay.with at hy
    split at hy
    · rename_i hn; exact .inl ⟨hn.1, hn.2, hy⟩
    · rename_i hn; exact .inr ⟨hn, hy⟩
  -- an id that is not q's, and not below, was made by a later operation; nothing of q's row can be there
  have later : ∀ y e z f sz1 ro1 st1 k1 c1 sz2 ro2 st2 k2 c2, ι y = some e → (G (q + 1)).n ≤ y → (G R).o y = .cells sz1 ro1 f st1 k1 c1 → (G q).n ≤ z → z < (G (q + 1)).n → (G R).o z = .cells sz2 ro2 f st2 k2 c2 → False := by
    intro y e z f sz1 ro1 st1 k1 c1 sz2 ro2 st2 k2 c2 hy hyn hoy hz1 hz2 hoz
    obtain ⟨e', he'⟩ := hQ.fam z y e f _ _ _ _ _ _ _ _ _ _ hoz hoy (by omega) (by omega) hy
    exact hnone z e' he' ⟨hz1, hz2⟩
  -- what operation q has turned is a row that has been appended to
  have turned : ∀ z, z < (G q).n → (G (q + 1)).o z ≠ (G q).o z → ∃ sz f k c m', (G q).o z = .cells sz false f none k c ∧ (G (q + 1)).o z = .cells sz false f (some m') k c ∧ (G q).n ≤ m' ∧ m' < (G (q + 1)).n ∧
      ∃ sz' ro' st' k' c', (G R).o m' = .cells sz' ro' f st' k' c' := by
    intro z hz hne
    rcases hqq.2 z hz with a | ⟨sz, f, k, c, m', a1, a2, a3⟩
    · exact absurd a hne
    · obtain ⟨b1, sz', ro', st', k', c', b2⟩ := (hwf (q + 1) (by omega) (by omega)).wf z _ _ _ _ _ _ a2
      obtain ⟨st2, d, _⟩ := (ch (q + 1) R (by omega) (by omega) (Nat.le_refl _)).is b1 b2
      exact ⟨sz, f, k, c, m', a1, a2, a3, b1, sz', ro', st2, k', c', d⟩
  -- the cells that can be read stay
  have kept : ∀ i, m ≤ i → i ≤ R → ∀ y ey cy x v, ι y = some ey → y < (G i).n → (G i).rd y = some cy → x < cy.length → w.cell? ⟨ey.block, ey.off + x, none⟩ = some v → w'.cell? ⟨ey.block, ey.off + x, none⟩ = some v := by
    intro i hi1 hi2 y ey cy x v hy hyi hry hx hc
    have hri := hQ.rel i hi1 hi2
    have hlen := (hri.isc (cut_mk hyi hy) hry).2
    refine hk.cell _ _ _ hc fun z ez hz hB hlo hhi => ?_
    obtain ⟨hzq, hz⟩ := cut_some hz
    by_cases he : (G (q + 1)).o z = (G q).o z
    · exact .inl he
    obtain ⟨sz, f, k, c, m', a1, a2, a3, a4, sz', ro', st', k', c', a5⟩ := turned z hzq he
    refine .inr ⟨sz, false, f, k, c, m', a1, a2, ?_⟩
    -- what y is, at i
    obtain ⟨szy, roy, fy, sty, ky, oy⟩ : ∃ szy roy fy sty ky, (G i).o y = .cells szy roy fy sty ky cy := by
      unfold AHeap.rd at hry
      split at hry
      · rename_i o1; injection hry with hry; subst hry; exact ⟨_, _, _, _, _, o1⟩
      · rename_i o1
        split at hry
        · injection hry with hry; subst hry; exact ⟨_, _, _, _, _, o1⟩
        · cases hry
      · cases hry
    -- both in one heap
    have both : ∀ j, m ≤ j → i ≤ j → q ≤ j → j ≤ R → (∃ st, (G j).o y = .cells szy roy fy st ky cy) ∧ (∃ st, (G j).o z = .cells sz false f st k c) := by
      intro j b1 b2 b3 b4
      obtain ⟨s1, s2, _⟩ := (ch i j hi1 b2 b4).is hyi oy
      obtain ⟨s3, s4, _⟩ := (ch q j h1 b3 b4).is hzq a1
      exact ⟨⟨s1, s2⟩, ⟨s3, s4⟩⟩
    obtain ⟨⟨sy, oyR⟩, ⟨sz0, ozR⟩⟩ := both R (by omega) hi2 (by omega) (Nat.le_refl _)
    by_cases hyz : y = z
    · subst hyz
      obtain rfl := Option.some.inj (hy.symm.trans hz)
      rw [oyR] at ozR
      injection ozR with _ _ _ _ _ e6
      subst e6
      omega
    · have hyR : y < (G R).n := WR.lt oyR
      have hzR : z < (G R).n := WR.lt ozR
      have hrR := hQ.rel R (by omega) (Nat.le_refl _)
      by_cases hf : fy = f
      · subst hf
        rcases Nat.lt_or_ge y (G q).n with hyq | hyq
        · -- an elder one of the same row
          have oyq : ∃ st, (G q).o y = .cells szy roy fy st ky cy := by
            rcases Nat.le_total i q with d | d
            · obtain ⟨s1, s2, _⟩ := (ch i q hi1 d (by omega)).is hyi oy; exact ⟨s1, s2⟩
            · obtain ⟨s1, s2, _⟩ := (ch q i h1 d hi2).was hyq oy; exact ⟨s1, s2⟩
          obtain ⟨s1, oyq⟩ := oyq
          have := Wq.uniq y z _ _ _ _ _ _ _ _ _ _ oyq a1
          have := (hQ.rel q h1 (by omega)).link y ey z ez _ _ _ _ _ _ _ _ _ _ _ (cut_mk hyq hy) (cut_mk hzq hz) oyq a1 (by omega) hB.symm
          omega
        · -- a younger one: it can't be there
          exfalso
          have hy2 : (G (q + 1)).n ≤ y := by
            rcases Nat.lt_or_ge y (G (q + 1)).n with d | d
            · exact absurd ⟨hyq, d⟩ (hnone y ey hy)
            · exact d
          exact later y ey m' _ _ _ _ _ _ _ _ _ _ _ hy hy2 oyR a3 a4 a5
      · have := hrR.apart y ey z ez _ _ _ _ _ _ _ _ _ _ _ (cut_mk hyR hy) (cut_mk hzR hz) oyR ozR hf hB.symm
        omega
  refine ⟨?_, ?_, ?_, ?_, ?_, ?_, ?_, ?_⟩
  · intro y hy
    unfold Lay.with; rw [if_neg (by omega)]; exact hQ.old y hy
  · intro y e hy
    rcases hw_case y e hy with ⟨a, b, _⟩ | ⟨_, b⟩
    · exact .inr ⟨q, h1, h2, .inr rfl, a, b⟩
    · rcases hQ.dom y e b with c | ⟨q2, c1, c2, c3, c4, c5⟩
      · exact .inl c
      · exact .inr ⟨q2, c1, c2, .inl c3, c4, c5⟩
  · -- each heap lies in the world
    intro i hi1 hi2
    have hri := hQ.rel i hi1 hi2
    have Wi := hwf i hi1 hi2
    -- an object of the layout: an old one, or one of q's
    have cs : ∀ y e, (ι.with κ (G q).n (G (q + 1)).n).cut (G i).n y = some e → y < (G i).n ∧ ((ι y = some e) ∨ ((G q).n ≤ y ∧ y < (G (q + 1)).n ∧ κ y = some e ∧ q + 1 ≤ i)) := by
      intro y e hy
      obtain ⟨a, b⟩ := cut_some hy
      refine ⟨a, ?_⟩
      rcases hw_case y e b with ⟨c1, c2, c3⟩ | ⟨_, c⟩
      · refine .inr ⟨c1, c2, c3, ?_⟩
        rcases Nat.lt_or_ge q i with d | d
        · exact d
        · have := nle i q hi1 d (by omega); omega
      · exact .inl c
    have mono1 : ∀ b e, ι.cut (G i).n b = some e → (ι.with κ (G q).n (G (q + 1)).n).cut (G i).n b = some e := fun b e hb => cut_mk (cut_some hb).1 (hw_old b e (cut_some hb).2)
    have was : ∀ y sz ro f st k c, q + 1 ≤ i → y < (G (q + 1)).n → (G i).o y = .cells sz ro f st k c → ∃ st', (G (q + 1)).o y = .cells sz ro f st' k c := by
      intro y sz ro f st k c hi hy ho
      obtain ⟨st', a, _⟩ := (ch (q + 1) i (by omega) hi hi2).was hy ho
      exact ⟨st', a⟩
    have atR : ∀ y sz ro f st k c, (G i).o y = .cells sz ro f st k c → ∃ st', (G R).o y = .cells sz ro f st' k c := by
      intro y sz ro f st k c ho
      obtain ⟨st', a, _⟩ := (ch i R hi1 hi2 (Nat.le_refl _)).is (Wi.lt ho) ho
      exact ⟨st', a⟩
    refine ⟨fun b e hb => (cut_some hb).1, ?_, ?_, ?_, ?_, ?_, ?_, Wi.wf, Wi.fam, Wi.uniq, Wi.out⟩
    · intro b e hb
      obtain ⟨a, c | ⟨c1, c2, c3, c4⟩⟩ := cs b e hb
      · exact Nat.lt_of_lt_of_le (hri.blk b e (cut_mk a c)) hsz
      · exact hr.blk b e c3
    · intro b e sz ro f st k c hb ho
      obtain ⟨a, d | ⟨c1, c2, c3, c4⟩⟩ := cs b e hb
      · exact hri.szs b e _ _ _ _ _ _ (cut_mk a d) ho
      · obtain ⟨st', o'⟩ := was b _ _ _ _ _ _ c4 c2 ho
        exact hr.szs b e _ _ _ _ _ _ c3 o'
    · intro b e c x v hb hc hx
      obtain ⟨a, d | ⟨c1, c2, c3, c4⟩⟩ := cs b e hb
      · obtain ⟨v', e1, e2⟩ := hri.val b e c x v (cut_mk a d) hc hx
        exact ⟨v', kept i hi1 hi2 b e c x v' d a hc (List.getElem?_eq_some_iff.1 hx).1 e1, e2.mono mono1⟩
      · have hc' := (ch (q + 1) i (by omega) c4 hi2).rd (fun b _ _ _ _ _ _ h => ((hwf (q + 1) (by omega) (by omega)).wf b _ _ _ _ _ _ h).1) c2 hc
        obtain ⟨v', e1, e2⟩ := hr.val b e c x v c3 hc' hx
        refine ⟨v', e1, e2.mono fun b e hb => cut_mk ?_ (hw_κ b e hb)⟩
        exact Nat.lt_of_lt_of_le (hκ b e hb) (nle (q + 1) i (by omega) c4 hi2)
    · intro b e sz f st k c x hb ho hx
      obtain ⟨a, d | ⟨c1, c2, c3, c4⟩⟩ := cs b e hb
      · obtain ⟨⟨v, hv⟩, hf⟩ := hri.room b e _ _ _ _ _ x (cut_mk a d) ho hx
        obtain ⟨e1, e2⟩ := hk.there _ _ _ hv
        exact ⟨e1, by rw [e2]; exact hf⟩
      · obtain ⟨st', o'⟩ := was b _ _ _ _ _ _ c4 c2 ho
        exact hr.room b e _ _ _ _ _ x c3 o' hx
    · -- rows apart
      -- q's own against another one
      have mix : ∀ y ey x ex szy roy fy sty ky cy szx rox fx stx kx cx, (G q).n ≤ y → y < (G (q + 1)).n → κ y = some ey → q + 1 ≤ i → ι x = some ex → x < (G i).n → (G i).o y = .cells szy roy fy sty ky cy → (G i).o x = .cells szx rox fx stx kx cx →
          (roy = false ∨ rox = false) → fy ≠ fx → ey.block = ex.block → ey.off + ey.cap ≤ ex.off ∨ ex.off + ex.cap ≤ ey.off := by
        intro y ey x ex szy roy fy sty ky cy szx rox fx stx kx cx y1 y2 y3 hi hx hxi oy ox hro hf hB
        obtain ⟨sty', oy'⟩ := was y _ _ _ _ _ _ hi y2 oy
        rcases Nat.lt_or_ge x (G (q + 1)).n with hxq | hxq
        · obtain ⟨stx', ox'⟩ := was x _ _ _ _ _ _ hi hxq ox
          have hxκ : κ x = some ex := by
            rcases Nat.lt_or_ge x (G q).n with d | d
            · rw [hκold x d]; exact hx
            · exact absurd ⟨d, hxq⟩ (hnone x ex hx)
          rcases hro with rfl | rfl
          · have := hr.apart x ex y ey _ _ _ _ _ _ _ _ _ _ _ hxκ y3 ox' oy' (Ne.symm hf) hB.symm
            omega
          · exact hr.apart y ey x ex _ _ _ _ _ _ _ _ _ _ _ y3 hxκ oy' ox' hf hB
        · have hxb := hri.blk x ex (cut_mk hxi hx)
          rcases hm.new y ey y1 y3 with d | ⟨b0, e0, sz0, ro0, f0, st0, k0, c0, d1, d2, d3, d4, d5, d6, sz', ro', st', k', c', d7⟩
          · omega
          · obtain ⟨hb0q, hb0⟩ := cut_some d1
            obtain ⟨sz3, f3, k3, c3, m3, t1, t2, t3, _⟩ := turned b0 hb0q d2
            rw [d6] at t1
            injection t1 with u1 u2 u3 u4 u5 u6
            subst u1 u2 u3 u4 u5 u6
            rw [d7] at oy'
            injection oy' with v1 v2 v3
            subst v3
            have hb0i : b0 < (G i).n := Nat.lt_of_lt_of_le hb0q (nle q i h1 (by omega) hi2)
            obtain ⟨stb, ob, _⟩ := (ch q i h1 (by omega) hi2).is hb0q d6
            have := hri.apart x ex b0 e0 _ _ _ _ _ _ _ _ _ _ _ (cut_mk hxi hx) (cut_mk hb0i hb0) ox ob (Ne.symm hf) (by omega)
            omega
      intro b1 e1 b2 e2 sz1 ro1 f1 st1 k1 c1 sz2 f2 st2 k2 c2 hb1 hb2 o1 o2 hf hB
      obtain ⟨a1, d1⟩ := cs b1 e1 hb1
      obtain ⟨a2, d2⟩ := cs b2 e2 hb2
      rcases d1 with d1 | ⟨p1, p2, p3, p4⟩ <;> rcases d2 with d2 | ⟨r1, r2, r3, r4⟩
      · exact hri.apart b1 e1 b2 e2 _ _ _ _ _ _ _ _ _ _ _ (cut_mk a1 d1) (cut_mk a2 d2) o1 o2 hf hB
      · have := mix b2 e2 b1 e1 _ _ _ _ _ _ _ _ _ _ _ _ r1 r2 r3 r4 d1 a1 o2 o1 (.inl rfl) (Ne.symm hf) hB.symm
        omega
      · exact mix b1 e1 b2 e2 _ _ _ _ _ _ _ _ _ _ _ _ p1 p2 p3 p4 d2 a2 o1 o2 (.inr rfl) hf hB
      · obtain ⟨_, q1⟩ := was b1 _ _ _ _ _ _ p4 p2 o1
        obtain ⟨_, q2⟩ := was b2 _ _ _ _ _ _ p4 r2 o2
        exact hr.apart b1 e1 b2 e2 _ _ _ _ _ _ _ _ _ _ _ p3 r3 q1 q2 hf hB
    · intro b1 e1 b2 e2 f sz1 ro1 st1 k1 c1 sz2 ro2 st2 k2 c2 hb1 hb2 o1 o2 hlt hB
      obtain ⟨a1, d1⟩ := cs b1 e1 hb1
      obtain ⟨a2, d2⟩ := cs b2 e2 hb2
      rcases d1 with d1 | ⟨p1, p2, p3, p4⟩ <;> rcases d2 with d2 | ⟨r1, r2, r3, r4⟩
      · exact hri.link b1 e1 b2 e2 _ _ _ _ _ _ _ _ _ _ _ (cut_mk a1 d1) (cut_mk a2 d2) o1 o2 hlt hB
      · have hb1q : b1 < (G q).n := by
          rcases Nat.lt_or_ge b1 (G q).n with d | d
          · exact d
          · exact absurd ⟨d, by omega⟩ (hnone b1 e1 d1)
        obtain ⟨_, q1⟩ := was b1 _ _ _ _ _ _ r4 (by omega) o1
        obtain ⟨_, q2⟩ := was b2 _ _ _ _ _ _ r4 r2 o2
        exact hr.link b1 e1 b2 e2 _ _ _ _ _ _ _ _ _ _ _ (by rw [hκold b1 hb1q]; exact d1) r3 q1 q2 hlt hB
      · exfalso
        have : (G (q + 1)).n ≤ b2 := by
          rcases Nat.lt_or_ge b2 (G (q + 1)).n with d | d
          · exact absurd ⟨by omega, d⟩ (hnone b2 e2 d2)
          · exact d
        obtain ⟨_, q1⟩ := atR b1 _ _ _ _ _ _ o1
        obtain ⟨_, q2⟩ := atR b2 _ _ _ _ _ _ o2
        exact later b2 e2 b1 f _ _ _ _ _ _ _ _ _ _ d2 this q2 p1 p2 q1
      · obtain ⟨_, q1⟩ := was b1 _ _ _ _ _ _ p4 p2 o1
        obtain ⟨_, q2⟩ := was b2 _ _ _ _ _ _ p4 r2 o2
        exact hr.link b1 e1 b2 e2 _ _ _ _ _ _ _ _ _ _ _ p3 r3 q1 q2 hlt hB
  · -- rows are there from below
    intro p x e f sz1 ro1 st1 k1 c1 sz2 ro2 st2 k2 c2 op ox hpx hp hx
    rcases hw_case x e hx with ⟨x1, x2, x3⟩ | ⟨_, x1⟩
    · rcases Nat.lt_or_ge p (G q).n with hpq | hpq
      · obtain ⟨stx, ox', _⟩ := (ch (q + 1) R (by omega) (by omega) (Nat.le_refl _)).was x2 ox
        obtain ⟨stp, op', _⟩ := (ch q R h1 (by omega) (Nat.le_refl _)).was hpq op
        rcases hm.famn x _ _ _ _ _ _ x1 ox' with d | ⟨b0, e0, sz0, ro0, st0, k0, c0, d1, d2, d3⟩
        · have := Wq.fam p _ _ _ _ _ _ op'; omega
        · obtain ⟨hb0q, hb0⟩ := cut_some d1
          obtain ⟨sz3, f3, k3, c3, m3, t1, _⟩ := turned b0 hb0q d3
          rw [d2] at t1
          injection t1 with u1 u2 u3 u4 u5 u6
          subst u4
          have hle := Wq.uniq p b0 _ _ _ _ _ _ _ _ _ _ op' d2
          rcases Nat.lt_or_ge p b0 with d | d
          · obtain ⟨stb, ob, _⟩ := (ch q R h1 (by omega) (Nat.le_refl _)).is hb0q d2
            obtain ⟨e', he'⟩ := hQ.fam p b0 e0 f _ _ _ _ _ _ _ _ _ _ op ob d hp hb0
            exact ⟨e', hw_old p e' he'⟩
          · obtain rfl : p = b0 := by omega
            exact ⟨e0, hw_old p e0 hb0⟩
      · obtain ⟨e', he'⟩ := hm.full p hpq (by omega)
        exact ⟨e', hw_κ p e' he'⟩
    · obtain ⟨e', he'⟩ := hQ.fam p x e f _ _ _ _ _ _ _ _ _ _ op ox hpx hp x1
      exact ⟨e', hw_old p e' he'⟩
  · intro i hi1 hi2 hi y y1 y2
    rcases hi with hi | rfl
    · obtain ⟨e, he⟩ := hQ.full i hi1 hi2 hi y y1 y2
      exact ⟨e, hw_old y e he⟩
    · obtain ⟨e, he⟩ := hm.full y y1 y2
      exact ⟨e, hw_κ y e he⟩
  · -- where what is new lies
    intro b e hb hbe
    rcases hw_case b e hbe with ⟨x1, x2, x3⟩ | ⟨_, x1⟩
    · rcases hm.new b e x1 x3 with d | ⟨b0, e0, sz0, ro0, f0, st0, k0, c0, d1, d2, d3, d4, d5, d6, sz', ro', st', k', c', d7⟩
      · left; have := hQ.keep.size; omega
      · obtain ⟨hb0q, hb0⟩ := cut_some d1
        obtain ⟨sz3, f3, k3, c3, m3, t1, t2, t3, t4, _⟩ := turned b0 hb0q d2
        rw [d6] at t1
        injection t1 with u1 u2 u3 u4 u5 u6
        subst u1 u2 u3 u4 u5 u6
        obtain ⟨stb, ob, _⟩ := (ch (q + 1) R (by omega) (by omega) (Nat.le_refl _)).is x2 d7
        rcases Nat.lt_or_ge b0 (G m).n with hm0 | hm0
        · obtain ⟨stm, om, om2⟩ := (ch m q (Nat.le_refl _) h1 (by omega)).was hm0 d6
          obtain ⟨stR, oR, oR2⟩ := (ch (q + 1) R (by omega) (by omega) (Nat.le_refl _)).is (by omega) t2
          refine .inr ⟨b0, e0, _, _, _, _, _, _, by rw [← hQ.old b0 hm0]; exact hb0, ?_, d3, d4, d5, om, _, _, _, _, _, ob⟩
          rw [oR, om]
          intro hh
          injection hh with _ _ _ hh
          rcases om2 with om2 | ⟨om2, _⟩ <;> rcases oR2 with oR2 | ⟨oR2, _⟩
          · subst om2 oR2; cases hh
          · cases oR2
          · subst om2 oR2; cases hh
          · cases oR2
        · rcases hQ.new b0 e0 hm0 hb0 with s | ⟨b1, e1, sz1, ro1, f1, st1, k1, c1, s1, s2, s3, s4, s5, s6, sz2, ro2, st2, k2, c2, s7⟩
          · left; omega
          · obtain ⟨stb0, ob0, _⟩ := (ch q R h1 (by omega) (Nat.le_refl _)).is hb0q d6
            rw [ob0] at s7
            injection s7 with _ _ s7
            subst s7
            exact .inr ⟨b1, e1, _, _, _, _, _, _, s1, s2, by omega, by omega, by omega, s6, _, _, _, _, _, ob⟩
    · exact hQ.new b e hb x1
  · intro b e sz ro f st k c hb hbe ho
    rcases hw_case b e hbe with ⟨x1, x2, x3⟩ | ⟨_, x1⟩
    · obtain ⟨stx, ox', _⟩ := (ch (q + 1) R (by omega) (by omega) (Nat.le_refl _)).was x2 ho
      rcases hm.famn b _ _ _ _ _ _ x1 ox' with d | ⟨b0, e0, sz0, ro0, st0, k0, c0, d1, d2, d3⟩
      · left; omega
      · obtain ⟨hb0q, hb0⟩ := cut_some d1
        obtain ⟨sz3, f3, k3, c3, m3, t1, t2, t3, t4, _⟩ := turned b0 hb0q d3
        rw [d2] at t1
        injection t1 with u1 u2 u3 u4 u5 u6
        subst u1 u2 u3 u4 u5 u6
        rcases Nat.lt_or_ge b0 (G m).n with hm0 | hm0
        · obtain ⟨stm, om, om2⟩ := (ch m q (Nat.le_refl _) h1 (by omega)).was hm0 d2
          obtain ⟨stR, oR, oR2⟩ := (ch (q + 1) R (by omega) (by omega) (Nat.le_refl _)).is (by omega) t2
          refine .inr ⟨b0, e0, _, _, _, _, _, by rw [← hQ.old b0 hm0]; exact hb0, om, ?_⟩
          rw [oR, om]
          intro hh
          injection hh with _ _ _ hh
          rcases om2 with om2 | ⟨om2, _⟩ <;> rcases oR2 with oR2 | ⟨oR2, _⟩
          · subst om2 oR2; cases hh
          · cases oR2
          · subst om2 oR2; cases hh
          · cases oR2
        · obtain ⟨stb0, ob0, _⟩ := (ch q R h1 (by omega) (Nat.le_refl _)).is hb0q d2
          exact hQ.famn b0 e0 _ _ _ _ _ _ hm0 hb0 ob0
    · exact hQ.famn b e _ _ _ _ _ _ hb x1 ho
  · -- what the stretch leaves alone
    have hK := hQ.keep
    -- an object of the layout that covers an old place is unchanged by q, if the old objects there are
    have still : ∀ z ez, (ι.cut (G q).n) z = some ez → ez.block < wm.heap.size → (∀ b e, ιm b = some e → e.block = ez.block → e.off ≤ ez.off → ez.off + ez.cap ≤ e.off + e.cap → (G R).o b = (G m).o b) → (G (q + 1)).o z = (G q).o z := by
      intro z ez hz hB hall
      obtain ⟨hzq, hz⟩ := cut_some hz
      rcases Nat.lt_or_ge z (G m).n with hzm | hzm
      · have h3 := hall z ez (by rw [← hQ.old z hzm]; exact hz) rfl (Nat.le_refl _) (Nat.le_refl _)
        have e1 := (ch m q (Nat.le_refl _) h1 (by omega)).evo hzm
        have e2 := hqq.evo hzq
        have e3 := (ch (q + 1) R (by omega) (by omega) (Nat.le_refl _)).evo (y := z) (by omega)
        have f1 := e1.mid (e2.trans e3) h3
        have f2 := (e1.trans e2).mid e3 h3
        rw [f2, f1]
      · exfalso
        rcases hQ.new z ez hzm hz with s | ⟨b1, e1, sz1, ro1, f1, st1, k1, c1, s1, s2, s3, s4, s5, _⟩
        · omega
        · exact s2 (hall b1 e1 s1 s3.symm s4 s5)
    refine ⟨hk.os.trans hK.os, hk.tape.trans hK.tape, hk.output.trans hK.output, Nat.le_trans hK.size hk.size, fun B hB hall => ?_, fun B off v hc hall => ?_, fun B off v hc => ?_⟩
    · rw [← hK.block B hB hall]
      refine hk.block B (Nat.lt_of_lt_of_le hB hK.size) fun z ez hz hzB => still z ez hz (by omega) fun b e b1 b2 _ _ => hall b e b1 (by omega)
    · have e1 := hK.cell B off v hc hall
      have hB := cell_lt hc
      refine hk.cell B off v e1 fun z ez hz z1 z2 z3 => .inl (still z ez hz (by omega) fun b e b1 b2 b3 b4 => hall b e b1 (by omega) (by omega) (by omega))
    · obtain ⟨⟨v', hv'⟩, hf⟩ := hK.there B off v hc
      obtain ⟨h3, h4⟩ := hk.there B off v' hv'
      exact ⟨h3, by rw [h4, hf]⟩

end Go.Proofs.Ytjmklialkjncaaa.Eng
