/- The value of a flow grows along a way. Own work; no condition. -/
import Derived.Test.YtjmklialkjncaaaFlS
set_option linter.unusedVariables false
set_option linter.unusedSimpArgs false
namespace Go.Proofs.Ytjmklialkjncaaa.Eng

def sumTo (g : Nat → Int) : Nat → Int
  | 0 => 0
  | m + 1 => sumTo g m + g m

/-- What an edge adds to what leaves a node. -/
def leaves (n : Net4) (v : Int) (i : Nat) (x : Int) : Int := (if (nth n.edges i).a = v then x else 0) - (if (nth n.edges i).b = v then x else 0)
def netOut (n : Net4) (f : List Int) (v : Int) : Int := sumTo (fun i => leaves n v i (nth f i)) n.edges.length

theorem sumTo_congr {g h : Nat → Int} : ∀ {m : Nat}, (∀ i, i < m → g i = h i) → sumTo g m = sumTo h m
  | 0, _ => rfl
  | m + 1, he => by
    show sumTo g m + g m = sumTo h m + h m
    rw [sumTo_congr fun i hi => he i (Nat.lt_succ_of_lt hi), he m (Nat.lt_succ_self m)]

theorem sumTo_one {g h : Nat → Int} {k : Nat} {d : Int} : ∀ {m : Nat}, k < m → (∀ i, i < m → i ≠ k → g i = h i) → g k = h k + d → sumTo g m = sumTo h m + d
  | 0, hk, _, _ => by omega
  | m + 1, hk, he, hd => by
    show sumTo g m + g m = sumTo h m + h m + d
    rcases Nat.lt_or_ge k m with q | q
    · rw [sumTo_one q (fun i hi => he i (Nat.lt_succ_of_lt hi)) hd, he m (Nat.lt_succ_self m) (by omega)]
      omega
    · have e : k = m := by omega
      subst e
      rw [sumTo_congr fun i hi => he i (Nat.lt_succ_of_lt hi) (by omega), hd]
      omega

theorem sumTo_le {g : Nat → Int} {b : Int} : ∀ {m : Nat}, (∀ i, i < m → g i ≤ b) → sumTo g m ≤ m * b
  | 0, _ => by simp [sumTo]
  | m + 1, he => by
    have h1 := sumTo_le (m := m) fun i hi => he i (Nat.lt_succ_of_lt hi)
    have h2 := he m (Nat.lt_succ_self m)
    show sumTo g m + g m ≤ _
    have : ((m + 1 : Nat) : Int) * b = m * b + b := by rw [Int.natCast_succ, Int.add_mul, Int.one_mul]
    omega

/-- One edge is changed. -/
theorem netOut_change {n : Net4} (hn : Sound n) {f : List Int} (hl : f.length = n.edges.length) {i : Nat} {w d x : Int} (hi : i < n.edges.length) (hw : (nth n.edges i).a = w ∨ (nth n.edges i).b = w) :
    netOut n (changeR n f i w d) x = netOut n f x + ((if otherR (nth n.edges i) w = x then d else 0) - (if w = x then d else 0)) := by
  have he := hn.at hi
  refine sumTo_one hi (fun j hj hne => ?_) ?_
  · unfold changeR
    rw [nth_set (by omega) (by omega), if_neg (fun e => hne e.symm)]
  · unfold changeR leaves otherR
    rw [nth_set (by omega) (by omega), if_pos rfl]
    by_cases hb : (nth n.edges i).b = w
    · have ha : ¬ (nth n.edges i).a = w := by omega
      simp only [if_pos hb, if_neg ha, hb]
      by_cases q1 : (nth n.edges i).a = x <;> by_cases q2 : w = x <;> simp only [if_pos, if_neg, q1, q2, not_false_eq_true, if_true, if_false] <;> omega
    · have ha : (nth n.edges i).a = w := by omega
      simp only [if_neg hb, if_pos ha, ha]
      by_cases q1 : (nth n.edges i).b = x <;> by_cases q2 : w = x <;> simp only [if_pos, if_neg, q1, q2, not_false_eq_true, if_true, if_false] <;> omega

/-- Along a way the source sends more, the way's node gets more, all others keep their balance. -/
theorem Way.netOut {n : Net4} (hn : Sound n) {f0 l : List Int} {v d : Int} {p : List (Nat × Int)} (h : Way n f0 l v p) (x : Int) : ∀ f : List Int, f.length = n.edges.length →
    Eng.netOut n (changeW n d p f) x = Eng.netOut n f x + ((if n.source = x then d else 0) - (if v = x then d else 0)) := by
  induction h with
  | root => intro f _; show Eng.netOut n f x = _; omega
  | @step v i p h1 h2 h3 h4 h5 h6 h7 h8 hw ih =>
    intro f hf
    have k3 := ((Way.step h1 h2 h3 h4 h5 h6 h7 h8 hw).edges _ (List.mem_cons_self ..)).2.2.1
    show Eng.netOut n (changeW n d p (changeR n f i v d)) x = _
    rw [ih (changeR n f i v d) (by unfold changeR; rw [List.length_set]; exact hf), netOut_change hn hf h4 k3]
    generalize (if otherR (nth n.edges i) v = x then d else 0) = A1
    generalize (if v = x then d else 0) = A2
    generalize (if n.source = x then d else 0) = A3
    omega

theorem netOut_bound {n : Net4} (hn : Sound n) {f : List Int} (hf : Flow n f) (v : Int) : netOut n f v ≤ n.edges.length * 1099511627776 := by
  refine sumTo_le fun i hi => ?_
  have he := hn.at hi
  have hc := hf.cap i hi
  unfold leaves
  split <;> split <;> omega

end Go.Proofs.Ytjmklialkjncaaa.Eng
