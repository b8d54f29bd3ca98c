/- What both maxima come to, in plain lists. Own work; no condition. -/
import Derived.Test.YtjmklialkjncaaaFlT
set_option linter.unusedVariables false
set_option linter.unusedSimpArgs false
namespace Go.Proofs.Ytjmklialkjncaaa.Eng

/-- The least rest on a way. -/
def minW (n : Net4) (f : List Int) : List (Nat × Int) → Int
  | [] => 0
  | q :: p => leastW n f (restOn n f q) (q :: p)

inductive MaxTo (n : Net4) : List Int → Int → Int × List Int → Prop
  | done {f : List Int} {v : Int} : nth (searchR n f true) n.sink.toNat = -2 → MaxTo n f v (v, f)
  | more {f : List Int} {v : Int} {p : List (Nat × Int)} {r : Int × List Int} : Way n f (searchR n f true) n.sink p → MaxTo n (changeW n (minW n f p) p f) (v + minW n f p) r → MaxTo n f v r

theorem Way.uniq {n : Net4} {f l : List Int} {v : Int} {p : List (Nat × Int)} (h : Way n f l v p) : ∀ {p' : List (Nat × Int)}, Way n f l v p' → p = p' := by
  induction h with
  | root =>
    intro p' h'
    generalize hs : n.source = s at h'
    cases h' with
    | root => rfl
    | step _ _ _ _ _ _ _ h8 _ => exact absurd hs.symm h8
  | @step v i p h1 h2 h3 h4 h5 h6 h7 h8 hw ih =>
    intro p' h'
    cases h' with
    | root => exact absurd rfl h8
    | @step _ i' p2 g1 g2 g3 g4 g5 g6 g7 g8 gw =>
      have e : i = i' := by rw [h3] at g3; omega
      subst e
      rw [ih gw]

theorem MaxTo.uniq {n : Net4} (hn : Sound n) {f : List Int} {v : Int} {r : Int × List Int} (h : MaxTo n f v r) : ∀ {r' : Int × List Int}, MaxTo n f v r' → r = r' := by
  have no : ∀ {f : List Int} {p : List (Nat × Int)}, nth (searchR n f true) n.sink.toNat = -2 → Way n f (searchR n f true) n.sink p → False := by
    intro f p h1 h2
    generalize hs : n.sink = s at h1 h2
    cases h2 with
    | root => exact hn.ne hs.symm
    | step _ _ h3 _ _ _ _ _ _ => rw [h3] at h1; omega
  induction h with
  | done h1 =>
    intro r' h'
    cases h' with
    | done _ => rfl
    | more g1 _ => exact (no h1 g1).elim
  | more h1 _ ih =>
    intro r' h'
    cases h' with
    | done g1 => exact (no g1 h1).elim
    | more g1 g2 =>
      have e := h1.uniq g1
      subst e
      exact ih g2

theorem leastW_le {n : Net4} {f : List Int} : ∀ (p : List (Nat × Int)) (x : Int), leastW n f x p ≤ x ∧ ∀ q ∈ p, leastW n f x p ≤ restOn n f q
  | [], x => ⟨Int.le_refl _, fun q hq => by simp at hq⟩
  | q :: p, x => by
    obtain ⟨h1, h2⟩ := leastW_le (n := n) (f := f) p (min x (restOn n f q))
    have e : leastW n f x (q :: p) = leastW n f (min x (restOn n f q)) p := rfl
    rw [e]
    refine ⟨by omega, fun q' hq => ?_⟩
    rcases List.mem_cons.1 hq with rfl | hq
    · omega
    · exact h2 q' hq

theorem leastW_pos {n : Net4} {f : List Int} : ∀ (p : List (Nat × Int)) (x : Int), 0 < x → (∀ q ∈ p, 0 < restOn n f q) → 0 < leastW n f x p
  | [], x, hx, _ => hx
  | q :: p, x, hx, h => leastW_pos p (min x (restOn n f q)) (by have := h q (List.mem_cons_self ..); omega) fun q' hq => h q' (List.mem_cons_of_mem _ hq)

theorem Way.min {n : Net4} (hn : Sound n) {f l : List Int} {p : List (Nat × Int)} (h : Way n f l n.sink p) : 0 < minW n f p ∧ ∀ q ∈ p, minW n f p ≤ restOn n f q := by
  have he := h.edges
  cases p with
  | nil =>
    exfalso
    generalize hs : n.sink = s at h
    cases h with
    | root => exact hn.ne hs.symm
  | cons q p =>
    exact ⟨leastW_pos _ _ (he q (List.mem_cons_self ..)).2.1 fun q' hq => (he q' hq).2.1, (leastW_le (q :: p) _).2⟩

end Go.Proofs.Ytjmklialkjncaaa.Eng
