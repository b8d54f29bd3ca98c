/- New objects and appends: how the abstract heap follows. Own work; no condition. -/
import Derived.Test.YtjmklialkjncaaaEngD
set_option linter.unusedVariables false
set_option linter.unusedSimpArgs false
namespace Go.Proofs.Ytjmklialkjncaaa.Eng

variable {P : Program} {base : Nat} {ι : Lay} {h : AHeap} {w : World}

/-- The world may have turned at the places `Z`, and have got new blocks. -/
structure Turned (w w' : World) (Z : Nat → Nat → Prop) : Prop where
  os : w'.os = w.os
  tape : w'.tape = w.tape
  output : w'.output = w.output
  size : w.heap.size ≤ w'.heap.size
  block : ∀ B, B < w.heap.size → (∀ o, ¬ Z B o) → w'.heap[B]? = w.heap[B]?
  cell : ∀ B o u, w.cell? ⟨B, o, none⟩ = some u → ¬ Z B o → w'.cell? ⟨B, o, none⟩ = some u
  there : ∀ B o u, w.cell? ⟨B, o, none⟩ = some u → (∃ u', w'.cell? ⟨B, o, none⟩ = some u') ∧ w'.frozen? ⟨B, o, none⟩ = w.frozen? ⟨B, o, none⟩

theorem cell_lt {w : World} {B o : Nat} {u : Value} (hc : w.cell? ⟨B, o, none⟩ = some u) : B < w.heap.size := by
  rcases Nat.lt_or_ge B w.heap.size with h | h
  · exact h
  · unfold World.cell? at hc
    simp only [Array.getElem?_eq_none h] at hc
    cases hc

theorem Turned.push (w : World) (x : Obj) (n : Nat) : Turned w { w with heap := w.heap.push x, drawn := n } fun _ _ => False := by
  have hb : ∀ B, B < w.heap.size → (w.heap.push x)[B]? = w.heap[B]? := fun B hB => by rw [Array.getElem?_push, if_neg (by omega)]
  refine ⟨rfl, rfl, rfl, by simp, fun B hB _ => hb B hB, fun B o u hu _ => ?_, fun B o u hu => ?_⟩
  · have := cell_lt hu
    unfold World.cell? at hu ⊢
    simp only [hb B this]
    exact hu
  · have := cell_lt hu
    refine ⟨⟨u, ?_⟩, ?_⟩
    · unfold World.cell? at hu ⊢
      simp only [hb B this]
      exact hu
    · unfold World.frozen?
      simp only [hb B this]

theorem Wrote.turned {w w' : World} {B o : Nat} {vs : List Value} (hw : Wrote w w' B o vs) : Turned w w' fun B' o' => B' = B ∧ o ≤ o' ∧ o' < o + vs.length := by
  refine ⟨hw.os, hw.tape, hw.output, Nat.le_of_eq hw.size.symm, fun B' hB' hz => ?_, fun B' o' u hu hz => ?_, fun B' o' u hu => ⟨⟨_, hw.cell _ _ _ hu⟩, hw.frozen _⟩⟩
  · by_cases e : B' = B
    · cases vs with
      | nil => rw [hw.same rfl]
      | cons v vs => exact absurd ⟨e, Nat.le_refl _, by simp⟩ (hz o)
    · exact hw.block B' e
  · rw [hw.cell _ _ _ hu, if_neg hz]

/-- A layout with one object more. -/
def Lay.add (ι : Lay) (n : Nat) (e : Ext) : Lay := fun b => if b = n then some e else ι b

theorem Lay.add_old {ι : Lay} {n : Nat} {e : Ext} (hn : ι n = none) (b : Nat) (x : Ext) (hb : ι b = some x) : ι.add n e b = some x := by
  unfold Lay.add
  split
  · rename_i h; subst h; rw [hn] at hb; cases hb
  · exact hb

theorem HRel.none (hr : HRel base ι h w) {b : Nat} (hb : h.n ≤ b) : ι b = none := by
  cases hx : ι b with
  | none => rfl
  | some e => exact absurd (hr.lt b e hx) (by omega)

/-- A new object in a new block. -/
theorem new_ok (hr : HRel base ι h w) (hbase : base ≤ w.heap.size) {w' : World} (hT : Turned w w' fun _ _ => False) {en : Ext} {sz : Nat} {cn : List Value}
    (hblk : w.heap.size ≤ en.block ∧ en.block < w'.heap.size) (hsz : en.sz = sz) (hcap : cn.length ≤ en.cap) (hcell : ∀ x ∈ cn, isCell x = true)
    (hval : ∀ (i : Nat) v, cn[i]? = some v → ∃ v', w'.cell? ⟨en.block, en.off + i, none⟩ = some v' ∧ VRel ι v v')
    (hroom : ∀ i, i < en.cap → (∃ v, w'.cell? ⟨en.block, en.off + i, none⟩ = some v) ∧ w'.frozen? ⟨en.block, en.off + i, none⟩ = false) :
    HRel base (ι.add h.n en) (h.new (.cells sz false h.n none 0 cn)) w' ∧ Keeps ι h (h.new (.cells sz false h.n none 0 cn)) w w' ∧ More base ι (ι.add h.n en) h (h.new (.cells sz false h.n none 0 cn)) w := by
  have hn := hr.none (Nat.le_refl h.n)
  generalize hh' : h.new (.cells sz false h.n none 0 cn) = h'
  have hnew : ∀ b, h'.o b = if b = h.n then .cells sz false h.n none 0 cn else h.o b := fun b => by rw [← hh']; rfl
  have hn' : h'.n = h.n + 1 := by rw [← hh']; rfl
  have hadd : ∀ b e, ι.add h.n en b = some e → (b = h.n ∧ e = en) ∨ (b ≠ h.n ∧ ι b = some e) := by
    intro b e hb
    unfold Lay.add at hb
    split at hb
    · rename_i hh; exact .inl ⟨hh, (Option.some.inj hb).symm⟩
    · rename_i hh; exact .inr ⟨hh, hb⟩
  have hlive : ∀ b sz1 ro1 f1 st1 k1 c1, h.o b = .cells sz1 ro1 f1 st1 k1 c1 → b < h.n := by
    intro b sz1 ro1 f1 st1 k1 c1 hb
    rcases Nat.lt_or_ge b h.n with q | q
    · exact q
    · rw [hr.out b q] at hb; cases hb
  have hrd : ∀ y c, y < h.n → h'.rd y = some c → h.rd y = some c := by
    intro y c hy hc
    rw [← hc]
    refine (rd_eq (by rw [hnew, if_neg (by omega)]) fun sz1 ro1 f1 m k1 c1 hh => ?_).symm
    rw [hnew, if_neg (by have := (hr.wf y _ _ _ _ _ _ hh).1; omega)]
  -- an object of the new heap: the new one, or an old one
  have hcase : ∀ b sz1 ro1 f1 st1 k1 c1, h'.o b = .cells sz1 ro1 f1 st1 k1 c1 → (b = h.n ∧ sz1 = sz ∧ ro1 = false ∧ f1 = h.n ∧ st1 = none ∧ k1 = 0 ∧ c1 = cn) ∨ (b < h.n ∧ h.o b = .cells sz1 ro1 f1 st1 k1 c1) := by
    intro b sz1 ro1 f1 st1 k1 c1 ho
    rw [hnew] at ho
    split at ho
    · rename_i e1
      injection ho with e2 e3 e4 e5 e6 e7
      exact .inl ⟨e1, e2.symm, e3.symm, e4.symm, e5.symm, e6.symm, e7.symm⟩
    · exact .inr ⟨hlive b _ _ _ _ _ _ ho, ho⟩
  refine ⟨⟨?_, ?_, ?_, ?_, ?_, ?_, ?_, ?_, ?_, ?_, ?_⟩, ⟨hT.os, hT.tape, hT.output, hT.size, fun B hB _ => hT.block B hB (fun _ => id), fun B o v hc _ => hT.cell B o v hc id, fun B o v hc => hT.there B o v hc⟩, ⟨?_, ?_, ?_, ?_, ?_, by omega⟩⟩
  · intro b e hb
    rcases hadd b e hb with ⟨rfl, _⟩ | ⟨_, hb⟩
    · omega
    · have := hr.lt b e hb; omega
  · intro b e hb
    rcases hadd b e hb with ⟨_, rfl⟩ | ⟨_, hb⟩
    · exact hblk.2
    · exact Nat.lt_of_lt_of_le (hr.blk b e hb) hT.size
  · intro b e sz1 ro1 f1 st1 k1 c1 hb ho
    rcases hadd b e hb with ⟨rfl, rfl⟩ | ⟨hne, hb⟩
    · rcases hcase _ _ _ _ _ _ _ ho with ⟨_, rfl, rfl, rfl, rfl, rfl, rfl⟩ | ⟨q, _⟩
      · exact ⟨hsz, hcap, fun _ => Nat.le_trans hbase hblk.1, hcell⟩
      · omega
    · rcases hcase _ _ _ _ _ _ _ ho with ⟨q, _⟩ | ⟨_, q⟩
      · exact absurd q hne
      · exact hr.szs b e _ _ _ _ _ _ hb q
  · intro b e c i v hb hc hi
    rcases hadd b e hb with ⟨rfl, rfl⟩ | ⟨hne, hb⟩
    · have : h'.rd h.n = some cn := by unfold AHeap.rd; rw [hnew, if_pos rfl]
      rw [this] at hc
      injection hc with hc; subst hc
      obtain ⟨v', h1, h2⟩ := hval i v hi
      exact ⟨v', h1, h2.mono (Lay.add_old hn)⟩
    · obtain ⟨v', h1, h2⟩ := hr.val b e c i v hb (hrd b c (hr.lt b e hb) hc) hi
      exact ⟨v', hT.cell _ _ _ h1 id, h2.mono (Lay.add_old hn)⟩
  · intro b e sz1 f1 st1 k1 c1 i hb ho hi
    rcases hadd b e hb with ⟨rfl, rfl⟩ | ⟨hne, hb⟩
    · exact hroom i hi
    · rcases hcase _ _ _ _ _ _ _ ho with ⟨q, _⟩ | ⟨_, q⟩
      · exact absurd q hne
      · obtain ⟨⟨v, hv⟩, hf⟩ := hr.room b e _ _ _ _ _ i hb q hi
        obtain ⟨h1, h2⟩ := hT.there _ _ _ hv
        exact ⟨h1, by rw [h2]; exact hf⟩
  · intro b1 e1 b2 e2 sz1 ro1 f1 st1 k1 c1 sz2 f2 st2 k2 c2 h1 h2 o1 o2 hf hB
    rcases hadd b1 e1 h1 with ⟨q1, r1⟩ | ⟨q1, r1⟩ <;> rcases hadd b2 e2 h2 with ⟨q2, r2⟩ | ⟨q2, r2⟩
    · rcases hcase _ _ _ _ _ _ _ o1 with ⟨_, _, _, q3, _⟩ | ⟨q3, _⟩
      · rcases hcase _ _ _ _ _ _ _ o2 with ⟨_, _, _, q4, _⟩ | ⟨q4, _⟩
        · omega
        · omega
      · omega
    · have := hr.blk b2 e2 r2; subst r1; omega
    · have := hr.blk b1 e1 r1; subst r2; omega
    · rcases hcase _ _ _ _ _ _ _ o1 with ⟨q3, _⟩ | ⟨_, q3⟩
      · exact absurd q3 q1
      · rcases hcase _ _ _ _ _ _ _ o2 with ⟨q4, _⟩ | ⟨_, q4⟩
        · exact absurd q4 q2
        · exact hr.apart b1 e1 b2 e2 _ _ _ _ _ _ _ _ _ _ _ r1 r2 q3 q4 hf hB
  · intro b1 e1 b2 e2 f1 sz1 ro1 st1 k1 c1 sz2 ro2 st2 k2 c2 h1 h2 o1 o2 hlt hB
    rcases hadd b1 e1 h1 with ⟨q1, r1⟩ | ⟨q1, r1⟩ <;> rcases hadd b2 e2 h2 with ⟨q2, r2⟩ | ⟨q2, r2⟩
    · omega
    · have := hr.lt b2 e2 r2; omega
    · have := hr.blk b1 e1 r1; subst r2; omega
    · rcases hcase _ _ _ _ _ _ _ o1 with ⟨q3, _⟩ | ⟨_, q3⟩
      · exact absurd q3 q1
      · rcases hcase _ _ _ _ _ _ _ o2 with ⟨q4, _⟩ | ⟨_, q4⟩
        · exact absurd q4 q2
        · exact hr.link b1 e1 b2 e2 _ _ _ _ _ _ _ _ _ _ _ r1 r2 q3 q4 hlt hB
  · intro b sz1 ro1 f1 m k1 c1 ho
    rcases hcase _ _ _ _ _ _ _ ho with ⟨_, _, _, _, q, _⟩ | ⟨_, q⟩
    · cases q
    · obtain ⟨q1, sz3, ro3, st3, k3, c3, q2⟩ := hr.wf b _ _ _ _ _ _ q
      exact ⟨by omega, sz3, ro3, st3, k3, c3, by rw [hnew, if_neg (by omega)]; exact q2⟩
  · intro b sz1 ro1 f1 st1 k1 c1 ho
    rcases hcase _ _ _ _ _ _ _ ho with ⟨q1, _, _, q2, _⟩ | ⟨_, q⟩
    · omega
    · exact hr.fam b _ _ _ _ _ _ q
  · intro y z f1 sz1 ro1 st1 k1 c1 sz2 ro2 k2 c2 o1 o2
    rcases hcase _ _ _ _ _ _ _ o1 with ⟨q1, _, _, q2, _⟩ | ⟨q1, q2⟩ <;> rcases hcase _ _ _ _ _ _ _ o2 with ⟨q3, _, _, q4, _⟩ | ⟨q3, q4⟩
    · omega
    · have := hr.fam z _ _ _ _ _ _ q4; omega
    · omega
    · exact hr.uniq y z _ _ _ _ _ _ _ _ _ _ q2 q4
  · intro b hb
    rw [hnew, if_neg (by omega)]; exact hr.out b (by omega)
  · intro b hb
    unfold Lay.add; rw [if_neg (by omega)]
  · intro b e hb hbe
    rcases hadd b e hbe with ⟨_, rfl⟩ | ⟨_, hbe⟩
    · exact .inl hblk.1
    · have := hr.lt b e hbe; omega
  · intro b sz1 ro1 f1 st1 k1 c1 hb ho
    rcases hcase _ _ _ _ _ _ _ ho with ⟨q1, _, _, q2, _⟩ | ⟨q, _⟩
    · left; omega
    · omega
  · intro b h1 h2
    exact ⟨en, by unfold Lay.add; rw [if_pos (by omega)]⟩
  · intro b hb
    rw [hnew, if_neg (by omega)]; exact Evo.refl _

/-- An append: the old object is marked; the new one lies in a new block, or in the old one's room. -/
theorem app_ok (hr : HRel base ι h w) (hbase : base ≤ w.heap.size) {b : Nat} {e : Ext} {sz f k : Nat} {c cn : List Value} (hb : ι b = some e) (ho : h.o b = .cells sz false f none k c) {w' : World}
    (hT : Turned w w' fun B o => B = e.block ∧ e.off + c.length ≤ o ∧ o < e.off + e.cap) {en : Ext}
    (hpl : (w.heap.size ≤ en.block ∧ en.block < w'.heap.size) ∨ (en.block = e.block ∧ e.off ≤ en.off ∧ en.off + en.cap ≤ e.off + e.cap ∧ e.off + c.length ≤ en.off + cn.length)) (hsz : en.sz = sz) (hcap : cn.length ≤ en.cap)
    (hcell : ∀ x ∈ cn, isCell x = true) (hval : ∀ (i : Nat) v, cn[i]? = some v → ∃ v', w'.cell? ⟨en.block, en.off + i, none⟩ = some v' ∧ VRel ι v v')
    (hroom : ∀ i, i < en.cap → (∃ v, w'.cell? ⟨en.block, en.off + i, none⟩ = some v) ∧ w'.frozen? ⟨en.block, en.off + i, none⟩ = false) :
    HRel base (ι.add h.n en) ((h.set b (.cells sz false f (some h.n) k c)).new (.cells sz false f none 0 cn)) w' ∧
      Keeps ι h ((h.set b (.cells sz false f (some h.n) k c)).new (.cells sz false f none 0 cn)) w w' ∧
      More base ι (ι.add h.n en) h ((h.set b (.cells sz false f (some h.n) k c)).new (.cells sz false f none 0 cn)) w := by
  have hn := hr.none (Nat.le_refl h.n)
  have hbn : b < h.n := hr.lt b e hb
  obtain ⟨hesz, hecap, hebase, hecell⟩ := hr.szs b e _ _ _ _ _ _ hb ho
  have hfb := hr.fam b _ _ _ _ _ _ ho
  generalize hh' : (h.set b (.cells sz false f (some h.n) k c)).new (.cells sz false f none 0 cn) = h'
  have hnew : ∀ y, h'.o y = if y = h.n then .cells sz false f none 0 cn else if y = b then .cells sz false f (some h.n) k c else h.o y := fun y => by rw [← hh']; rfl
  have hn' : h'.n = h.n + 1 := by rw [← hh']; rfl
  have hadd : ∀ y ey, ι.add h.n en y = some ey → (y = h.n ∧ ey = en) ∨ (y ≠ h.n ∧ ι y = some ey) := by
    intro y ey hy
    unfold Lay.add at hy
    split at hy
    · rename_i hh; exact .inl ⟨hh, (Option.some.inj hy).symm⟩
    · rename_i hh; exact .inr ⟨hh, hy⟩
  have hlive : ∀ b sz1 ro1 f1 st1 k1 c1, h.o b = .cells sz1 ro1 f1 st1 k1 c1 → b < h.n := by
    intro b sz1 ro1 f1 st1 k1 c1 hb
    rcases Nat.lt_or_ge b h.n with q | q
    · exact q
    · rw [hr.out b q] at hb; cases hb
  -- an object of the new heap: the new one, or an old one, the same but for the mark
  have hcase : ∀ y sz1 ro1 f1 st1 k1 c1, h'.o y = .cells sz1 ro1 f1 st1 k1 c1 → (y = h.n ∧ sz1 = sz ∧ ro1 = false ∧ f1 = f ∧ st1 = none ∧ k1 = 0 ∧ c1 = cn) ∨
      (y < h.n ∧ ∃ st0, h.o y = .cells sz1 ro1 f1 st0 k1 c1 ∧ ((y = b ∧ st1 = some h.n) ∨ (y ≠ b ∧ st0 = st1))) := by
    intro y sz1 ro1 f1 st1 k1 c1 hoy
    rw [hnew] at hoy
    split at hoy
    · rename_i e1
      injection hoy with e2 e3 e4 e5 e6 e7
      exact .inl ⟨e1, e2.symm, e3.symm, e4.symm, e5.symm, e6.symm, e7.symm⟩
    · split at hoy
      · rename_i e1; subst e1
        injection hoy with e2 e3 e4 e5 e6 e7
        subst e2 e3 e4 e5 e6 e7
        exact .inr ⟨hbn, none, ho, .inl ⟨rfl, rfl⟩⟩
      · rename_i e1
        exact .inr ⟨hlive y _ _ _ _ _ _ hoy, st1, hoy, .inr ⟨e1, rfl⟩⟩
  have hrdb : h.rd b = some c := by unfold AHeap.rd; rw [ho]
  have hrdb' : h'.rd b = some c := by
    unfold AHeap.rd
    rw [hnew, if_neg (by omega), if_pos rfl]
    simp only
    rw [hnew, if_pos rfl]
    rfl
  -- what can be read now could be read before; if it is another one, it lies apart
  have hrd : ∀ y ey cy, y < h.n → ι y = some ey → h'.rd y = some cy → h.rd y = some cy ∧ (y ≠ b → ey.block = e.block → ey.off + ey.cap ≤ e.off ∨ e.off + e.cap ≤ ey.off) := by
    intro y ey cy hy hye hc
    by_cases hyb : y = b
    · subst hyb
      rw [hrdb'] at hc
      exact ⟨by rw [hrdb, hc], fun q => absurd rfl q⟩
    · have key : ∀ sz1 ro1 f1 st1 k1 c1, h.o y = .cells sz1 ro1 f1 st1 k1 c1 → f1 ≠ f → (y ≠ b → ey.block = e.block → ey.off + ey.cap ≤ e.off ∨ e.off + e.cap ≤ ey.off) :=
        fun sz1 ro1 f1 st1 k1 c1 q1 q2 _ => hr.apart y ey b e _ _ _ _ _ _ _ _ _ _ _ hye hb q1 ho q2
      rcases rd_cases hc with ⟨sz1, ro1, f1, k1, q1⟩ | ⟨sz1, ro1, f1, m, k1, sz2, ro2, f2, c2, q1, q2⟩
      · rw [hnew, if_neg (by omega), if_neg hyb] at q1
        refine ⟨by unfold AHeap.rd; rw [q1], key _ _ _ _ _ _ q1 fun e1 => ?_⟩
        subst e1
        have := hr.uniq y b _ _ _ _ _ _ _ _ _ _ q1 ho
        have := hr.uniq b y _ _ _ _ _ _ _ _ _ _ ho q1
        omega
      · rw [hnew, if_neg (by omega), if_neg hyb] at q1
        obtain ⟨hm, sz3, ro3, st3, k3, c3, q3⟩ := hr.wf y _ _ _ _ _ _ q1
        have hmb : m ≠ b := by
          intro e1
          rw [hnew, if_neg (by omega), if_pos e1] at q2
          cases q2
        rw [hnew, if_neg (by omega), if_neg hmb] at q2
        refine ⟨by unfold AHeap.rd; rw [q1]; simp only; rw [q2]; rfl, key _ _ _ _ _ _ q1 fun e1 => ?_⟩
        subst e1
        rw [q2] at q3
        injection q3 with _ _ q3
        subst q3
        have := hr.uniq m b _ _ _ _ _ _ _ _ _ _ q2 ho
        have := hr.uniq b m _ _ _ _ _ _ _ _ _ _ ho q2
        omega
  refine ⟨⟨?_, ?_, ?_, ?_, ?_, ?_, ?_, ?_, ?_, ?_, ?_⟩, ⟨hT.os, hT.tape, hT.output, hT.size, ?_, ?_, hT.there⟩, ⟨?_, ?_, ?_, ?_, ?_, by omega⟩⟩
  · intro y ey hy
    rcases hadd y ey hy with ⟨rfl, _⟩ | ⟨_, hy⟩
    · omega
    · have := hr.lt y ey hy; omega
  · intro y ey hy
    have h0 := hr.blk b e hb
    rcases hadd y ey hy with ⟨_, rfl⟩ | ⟨_, hy⟩
    · rcases hpl with hpl | hpl
      · exact hpl.2
      · rw [hpl.1]; exact Nat.lt_of_lt_of_le h0 hT.size
    · exact Nat.lt_of_lt_of_le (hr.blk y ey hy) hT.size
  · intro y ey sz1 ro1 f1 st1 k1 c1 hy hoy
    rcases hadd y ey hy with ⟨rfl, rfl⟩ | ⟨hne, hy⟩
    · rcases hcase _ _ _ _ _ _ _ hoy with ⟨_, rfl, rfl, rfl, rfl, rfl, rfl⟩ | ⟨q, _⟩
      · refine ⟨hsz, hcap, fun _ => ?_, hcell⟩
        rcases hpl with hpl | hpl
        · exact Nat.le_trans hbase hpl.1
        · rw [hpl.1]; exact hebase rfl
      · omega
    · rcases hcase _ _ _ _ _ _ _ hoy with ⟨q, _⟩ | ⟨_, st0, q, _⟩
      · exact absurd q hne
      · exact hr.szs y ey _ _ _ _ _ _ hy q
  · intro y ey cy i v hy hc hi
    rcases hadd y ey hy with ⟨rfl, rfl⟩ | ⟨hne, hy⟩
    · have : h'.rd h.n = some cn := by unfold AHeap.rd; rw [hnew, if_pos rfl]
      rw [this] at hc
      injection hc with hc; subst hc
      obtain ⟨v', h1, h2⟩ := hval i v hi
      exact ⟨v', h1, h2.mono (Lay.add_old hn)⟩
    · have hlt := hr.lt y ey hy
      obtain ⟨h1, hap⟩ := hrd y ey cy hlt hy hc
      obtain ⟨v', h2, h3⟩ := hr.val y ey cy i v hy h1 hi
      have hil := (List.getElem?_eq_some_iff.1 hi).1
      refine ⟨v', hT.cell _ _ _ h2 ?_, h3.mono (Lay.add_old hn)⟩
      rintro ⟨q1, q2, q3⟩
      by_cases hyb : y = b
      · subst hyb
        obtain rfl := Option.some.inj (hb.symm.trans hy)
        rw [hrdb] at h1
        injection h1 with h1; subst h1
        omega
      · have h4 := (hr.isc hy h1).2
        rcases hap hyb q1 with h5 | h5 <;> omega
  · intro y ey sz1 f1 st1 k1 c1 i hy hoy hi
    rcases hadd y ey hy with ⟨rfl, rfl⟩ | ⟨hne, hy⟩
    · exact hroom i hi
    · rcases hcase _ _ _ _ _ _ _ hoy with ⟨q, _⟩ | ⟨_, st0, q, _⟩
      · exact absurd q hne
      · obtain ⟨⟨v, hv⟩, hf⟩ := hr.room y ey _ _ _ _ _ i hy q hi
        obtain ⟨h1, h2⟩ := hT.there _ _ _ hv
        exact ⟨h1, by rw [h2]; exact hf⟩
  · intro b1 e1 b2 e2 sz1 ro1 f1 st1 k1 c1 sz2 f2 st2 k2 c2 h1 h2 o1 o2 hf hB
    have h0 := hr.blk b e hb
    rcases hadd b1 e1 h1 with ⟨q1, r1⟩ | ⟨q1, r1⟩ <;> rcases hadd b2 e2 h2 with ⟨q2, r2⟩ | ⟨q2, r2⟩
    · rcases hcase _ _ _ _ _ _ _ o1 with ⟨_, _, _, q3, _⟩ | ⟨q3, _⟩
      · rcases hcase _ _ _ _ _ _ _ o2 with ⟨_, _, _, q4, _⟩ | ⟨q4, _⟩
        · omega
        · omega
      · omega
    · have hb2 := hr.blk b2 e2 r2
      rcases hcase _ _ _ _ _ _ _ o1 with ⟨_, _, _, q3, _⟩ | ⟨q3, _⟩
      · rcases hcase _ _ _ _ _ _ _ o2 with ⟨q4, _⟩ | ⟨_, st0, q4, _⟩
        · omega
        · rcases hpl with hpl | hpl
          · subst r1; omega
          · subst r1
            have := hr.apart b e b2 e2 _ _ _ _ _ _ _ _ _ _ _ hb r2 ho q4 (by omega) (by omega)
            omega
      · omega
    · have hb1 := hr.blk b1 e1 r1
      rcases hcase _ _ _ _ _ _ _ o2 with ⟨_, _, _, q3, _⟩ | ⟨q3, _⟩
      · rcases hcase _ _ _ _ _ _ _ o1 with ⟨q4, _⟩ | ⟨_, st0, q4, _⟩
        · omega
        · rcases hpl with hpl | hpl
          · subst r2; omega
          · subst r2
            have := hr.apart b1 e1 b e _ _ _ _ _ _ _ _ _ _ _ r1 hb q4 ho (by omega) (by omega)
            omega
      · omega
    · rcases hcase _ _ _ _ _ _ _ o1 with ⟨q3, _⟩ | ⟨_, st3, q3, _⟩
      · exact absurd q3 q1
      · rcases hcase _ _ _ _ _ _ _ o2 with ⟨q4, _⟩ | ⟨_, st4, q4, _⟩
        · exact absurd q4 q2
        · exact hr.apart b1 e1 b2 e2 _ _ _ _ _ _ _ _ _ _ _ r1 r2 q3 q4 hf hB
  · intro b1 e1 b2 e2 f1 sz1 ro1 st1 k1 c1 sz2 ro2 st2 k2 c2 h1 h2 o1 o2 hlt hB
    have h0 := hr.blk b e hb
    rcases hadd b1 e1 h1 with ⟨q1, r1⟩ | ⟨q1, r1⟩ <;> rcases hadd b2 e2 h2 with ⟨q2, r2⟩ | ⟨q2, r2⟩
    · omega
    · have := hr.lt b2 e2 r2; omega
    · have hb1 := hr.blk b1 e1 r1
      rcases hpl with hpl | hpl
      · subst r2; omega
      · subst r2
        rcases hcase _ _ _ _ _ _ _ o2 with ⟨_, _, _, q3, _, _, q5⟩ | ⟨q3, _⟩
        · subst q5
          rcases hcase _ _ _ _ _ _ _ o1 with ⟨q4, _⟩ | ⟨_, st0, q4, _⟩
          · omega
          · rw [q3] at q4
            have hle := hr.uniq b1 b _ _ _ _ _ _ _ _ _ _ q4 ho
            rcases Nat.lt_or_ge b1 b with hl | hl
            · have := hr.link b1 e1 b e _ _ _ _ _ _ _ _ _ _ _ r1 hb q4 ho hl (by omega)
              omega
            · obtain rfl : b1 = b := by omega
              obtain rfl := Option.some.inj (hb.symm.trans r1)
              rw [ho] at q4
              injection q4 with _ _ _ _ _ q4
              subst q4
              omega
        · omega
    · rcases hcase _ _ _ _ _ _ _ o1 with ⟨q3, _⟩ | ⟨_, st3, q3, _⟩
      · exact absurd q3 q1
      · rcases hcase _ _ _ _ _ _ _ o2 with ⟨q4, _⟩ | ⟨_, st4, q4, _⟩
        · exact absurd q4 q2
        · exact hr.link b1 e1 b2 e2 _ _ _ _ _ _ _ _ _ _ _ r1 r2 q3 q4 hlt hB
  · intro y sz1 ro1 f1 m k1 c1 hoy
    rcases hcase _ _ _ _ _ _ _ hoy with ⟨_, _, _, _, q, _⟩ | ⟨q0, st0, q, ⟨r1, r2⟩ | ⟨r1, r2⟩⟩
    · cases q
    · injection r2 with r2
      subst r1 r2
      rw [ho] at q
      injection q with _ _ q
      subst q
      exact ⟨by omega, _, _, _, _, _, by rw [hnew, if_pos rfl]⟩
    · subst r2
      obtain ⟨q1, sz3, ro3, st3, k3, c3, q2⟩ := hr.wf y _ _ _ _ _ _ q
      refine ⟨by omega, ?_⟩
      rw [hnew, if_neg (by omega)]
      split
      · rename_i e1; subst e1
        rw [ho] at q2
        injection q2 with _ _ q2
        subst q2
        exact ⟨_, _, _, _, _, rfl⟩
      · exact ⟨_, _, _, _, _, q2⟩
  · intro y sz1 ro1 f1 st1 k1 c1 hoy
    rcases hcase _ _ _ _ _ _ _ hoy with ⟨q1, _, _, q2, _⟩ | ⟨_, st0, q, _⟩
    · omega
    · exact hr.fam y _ _ _ _ _ _ q
  · intro y z f1 sz1 ro1 st1 k1 c1 sz2 ro2 k2 c2 o1 o2
    rcases hcase _ _ _ _ _ _ _ o2 with ⟨q3, _⟩ | ⟨q3, st0, q4, ⟨_, q5⟩ | ⟨q5, q6⟩⟩
    · rcases hcase _ _ _ _ _ _ _ o1 with ⟨q1, _⟩ | ⟨q1, _⟩ <;> omega
    · cases q5
    · subst q6
      rcases hcase _ _ _ _ _ _ _ o1 with ⟨q1, _, _, q2, _⟩ | ⟨q1, st1', q2, _⟩
      · exfalso
        subst q2
        have := hr.uniq b z _ _ _ _ _ _ _ _ _ _ ho q4
        have := hr.uniq z b _ _ _ _ _ _ _ _ _ _ q4 ho
        omega
      · exact hr.uniq y z _ _ _ _ _ _ _ _ _ _ q2 q4
  · intro y hy
    rw [hnew, if_neg (by omega), if_neg (by omega)]; exact hr.out y (by omega)
  · intro B hB hall
    refine hT.block B hB ?_
    rintro o ⟨rfl, _⟩
    have := hall b e hb rfl
    rw [hnew, if_neg (by omega), if_pos rfl, ho] at this
    cases this
  · intro B o v hc hall
    refine hT.cell B o v hc ?_
    rintro ⟨rfl, q2, q3⟩
    rcases hall b e hb rfl (by omega) (by omega) with h1 | ⟨_, _, _, _, c1, _, h1, _, h2⟩
    · rw [hnew, if_neg (by omega), if_pos rfl, ho] at h1; cases h1
    · rw [ho] at h1
      injection h1 with _ _ _ _ _ h1
      subst h1
      omega
  · intro y hy
    unfold Lay.add; rw [if_neg (by omega)]
  · intro y ey hy hye
    rcases hadd y ey hye with ⟨q, rfl⟩ | ⟨_, hye⟩
    · rcases hpl with hpl | hpl
      · exact .inl hpl.1
      · refine .inr ⟨b, e, _, _, _, _, _, _, hb, ?_, hpl.1, hpl.2.1, hpl.2.2.1, ho, _, _, _, _, _, by rw [hnew, if_pos q]⟩
        rw [hnew, if_neg (by omega), if_pos rfl, ho]
        intro hh; cases hh
    · have := hr.lt y ey hye; omega
  · intro y sz1 ro1 f1 st1 k1 c1 hy hoy
    rcases hcase _ _ _ _ _ _ _ hoy with ⟨_, _, _, q, _⟩ | ⟨q, _⟩
    · subst q
      refine .inr ⟨b, e, _, _, _, _, _, hb, ho, ?_⟩
      rw [hnew, if_neg (by omega), if_pos rfl, ho]
      intro hh; cases hh
    · omega
  · intro y h1 h2
    exact ⟨en, by unfold Lay.add; rw [if_pos (by omega)]⟩
  · intro y hy
    rw [hnew, if_neg (by omega)]
    split
    · rename_i hyb; subst hyb
      rw [ho]
      exact ⟨some h.n, k, c, rfl, Nat.le_refl _, fun _ => rfl, rfl, fun m e1 => by cases e1⟩
    · exact Evo.refl _

end Go.Proofs.Ytjmklialkjncaaa.Eng
