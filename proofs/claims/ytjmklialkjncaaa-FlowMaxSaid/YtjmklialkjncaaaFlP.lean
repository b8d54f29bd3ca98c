/- The program's search computes the plain one. Own work; no condition. -/
import Derived.Test.YtjmklialkjncaaaFlO
set_option linter.unusedVariables false
set_option linter.unusedSimpArgs false
namespace Go.Proofs.Ytjmklialkjncaaa.Eng

def genOf {α : Type} (F : Int → Nat → α) (l : List Int) : List α := (List.range l.length).map fun v => F (nth l v) v

theorem genOf_len {α : Type} (F : Int → Nat → α) (l : List Int) : (genOf F l).length = l.length := by unfold genOf; simp

theorem nth_genOf {α : Type} [Inhabited α] (F : Int → Nat → α) {l : List Int} {v : Nat} (h : v < l.length) : nth (genOf F l) v = F (nth l v) v := by
  rw [nth_get (by rw [genOf_len]; exact h)]
  unfold genOf
  simp

theorem genOf_set {α : Type} [Inhabited α] (F : Int → Nat → α) {l : List Int} {v : Nat} {i : Int} (h : v < l.length) : genOf F (l.set v i) = (genOf F l).set v (F i v) := by
  refine ext_nth (by rw [genOf_len, List.length_set, List.length_set, genOf_len]) fun j hj => ?_
  rw [genOf_len, List.length_set] at hj
  rw [nth_genOf F (by rw [List.length_set]; exact hj), nth_set h hj, nth_set (by rw [genOf_len]; exact h) (by rw [genOf_len]; exact hj), nth_genOf F hj]
  by_cases e : v = j
  · subst e; simp
  · simp [e]

theorem genOf_replicate {α : Type} [Inhabited α] (F : Int → Nat → α) (m : Nat) (a : Int) (d : α) (h : ∀ v, F a v = d) : genOf F (List.replicate m a) = List.replicate m d := by
  refine ext_nth (by rw [genOf_len, List.length_replicate, List.length_replicate]) fun j hj => ?_
  rw [genOf_len, List.length_replicate] at hj
  rw [nth_genOf F (by rw [List.length_replicate]; exact hj), nth_get (by simpa using hj), nth_get (by simpa using hj), List.getElem_replicate, List.getElem_replicate, h]

theorem set_replicate {α : Type} (m v : Nat) (d : α) : (List.replicate m d).set v d = List.replicate m d := by
  apply List.ext_getElem
  · simp
  · intro j h1 h2
    rw [List.getElem_set]
    split <;> simp

def seenF (i : Int) (_ : Nat) : Bool := decide (i ≠ -2)
def byF (n : Net4) (i : Int) (v : Nat) : Arc := if 0 ≤ i then ⟨i.toNat, v, decide ((nth n.edges i.toNat).b = v)⟩ else ⟨0, 0, false⟩
def fromF (n : Net4) (i : Int) (v : Nat) : Int := if 0 ≤ i then otherR (nth n.edges i.toNat) v else 0

theorem start_gen {α : Type} [Inhabited α] (F : Int → Nat → α) (n : Net4) (hn : Sound n) (d : α) (h : ∀ v, F (-2) v = d) : genOf F (startBS n).by_ = (List.replicate n.nodes.toNat d).set n.source.toNat (F (-1) n.source.toNat) := by
  have h1 := hn.nodes
  have h2 := hn.source
  unfold startBS
  rw [genOf_set F (by rw [List.length_replicate]; omega), genOf_replicate F _ _ d h]

theorem start_by (n : Net4) (hn : Sound n) : genOf (byF n) (startBS n).by_ = List.replicate n.nodes.toNat ⟨0, 0, false⟩ := by
  rw [start_gen (byF n) n hn ⟨0, 0, false⟩ fun v => rfl]
  exact set_replicate _ _ _
theorem start_from (n : Net4) (hn : Sound n) : genOf (fromF n) (startBS n).by_ = List.replicate n.nodes.toNat 0 := by
  rw [start_gen (fromF n) n hn 0 fun v => rfl]
  exact set_replicate _ _ _
theorem start_seen (n : Net4) (hn : Sound n) : genOf seenF (startBS n).by_ = (List.replicate n.nodes.toNat false).set n.source.toNat true := start_gen seenF n hn false fun v => rfl

/-- The edges at a node, in order. -/
def incL (n : Net4) (u : Nat) : List Nat := (List.range n.edges.length).filter (touches n u)

theorem arcsOf_eq (n : Net4) (u : Nat) : arcsOf n u = (incL n u).map (arcAt n u) := rfl

theorem incL_mem {n : Net4} {u i : Nat} (h : i ∈ incL n u) : i < n.edges.length ∧ ((nth n.edges i).a = u ∨ (nth n.edges i).b = u) := by
  unfold incL touches at h
  rw [List.mem_filter, List.mem_range, decide_eq_true_eq] at h
  exact h

theorem rest_start {n : Net4} {f : List Int} {stop : Bool} {k : Nat} {u : Int} {S : BS} (hu : 0 ≤ u) : restL n f stop k u (List.range n.edges.length) S = restL n f stop k u (incL n u.toNat) S := by
  unfold restL
  rw [innerL_filter]
  have : (List.range n.edges.length).filter (fun i => decide ((nth n.edges i).a = u ∨ (nth n.edges i).b = u)) = incL n u.toNat := by
    unfold incL
    apply List.filter_congr
    intro i _
    unfold touches
    rw [Int.toNat_of_nonneg hu]
  rw [this]

theorem arc_rest {n : Net4} (hn : Sound n) {u i : Nat} (f : List Int) (h : i ∈ incL n u) : restR (nth n.edges i) (nth f i) u = ((arcAt n u i).to, restP n f (arcAt n u i)) ∧ (arcAt n u i).edge = i ∧
    otherR (nth n.edges i) (arcAt n u i).to = u ∧ (arcAt n u i).fwd = decide ((nth n.edges i).b = (arcAt n u i).to) ∧ 0 ≤ (arcAt n u i).to ∧ (arcAt n u i).to < n.nodes := by
  obtain ⟨hi, hu⟩ := incL_mem h
  have he := hn.at hi
  unfold arcAt restR restP otherR
  by_cases ha : (nth n.edges i).a = u
  · simp only [if_pos ha, if_true, true_and]
    refine ⟨?_, ?_, by omega, by omega⟩
    · rw [if_neg (by omega)]; exact ha
    · simp
  · have hb : (nth n.edges i).b = u := by omega
    simp only [if_neg ha, if_pos hb, Bool.false_eq_true, if_false, true_and]
    refine ⟨?_, ?_, by omega, by omega⟩
    · rw [if_pos trivial]; exact hb
    · exact (decide_eq_false (by omega)).symm

end Go.Proofs.Ytjmklialkjncaaa.Eng
