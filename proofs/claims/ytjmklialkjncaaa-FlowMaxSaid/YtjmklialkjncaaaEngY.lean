/- Lists in cells: what the rules' side conditions want. Own work; no condition. -/
import Derived.Test.YtjmklialkjncaaaEngX
set_option linter.unusedVariables false
set_option linter.unusedSimpArgs false
namespace Go.Proofs.Ytjmklialkjncaaa.Eng

def nth {α : Type} [Inhabited α] (l : List α) (i : Nat) : α := l.getD i default

theorem nth_eq {α : Type} [Inhabited α] {l : List α} {i : Nat} (h : i < l.length) : l[i]? = some (nth l i) := by
  unfold nth
  rw [List.getD_eq_getElem?_getD, List.getElem?_eq_getElem h]
  rfl

theorem nth_get {α : Type} [Inhabited α] {l : List α} {i : Nat} (h : i < l.length) : nth l i = l[i] := by
  unfold nth
  rw [List.getD_eq_getElem?_getD, List.getElem?_eq_getElem h]
  rfl

theorem nth_append_left {α : Type} [Inhabited α] {l m : List α} {i : Nat} (h : i < l.length) : nth (l ++ m) i = nth l i := by
  rw [nth_get h, nth_get (by rw [List.length_append]; omega), List.getElem_append_left h]

theorem nth_append_len {α : Type} [Inhabited α] {l : List α} {a : α} : nth (l ++ [a]) l.length = a := by
  rw [nth_get (by simp), List.getElem_append_right (Nat.le_refl _)]
  simp

theorem nth_set {α : Type} [Inhabited α] {l : List α} {i j : Nat} {a : α} (hi : i < l.length) (hj : j < l.length) : nth (l.set i a) j = if i = j then a else nth l j := by
  rw [nth_get (by simpa using hj), List.getElem_set, nth_get hj]

theorem nth_mem {α : Type} [Inhabited α] {l : List α} {i : Nat} (h : i < l.length) : nth l i ∈ l := by rw [nth_get h]; exact List.getElem_mem h

theorem nth_map {α β : Type} [Inhabited α] [Inhabited β] {f : α → β} {l : List α} {i : Nat} (h : i < l.length) : nth (l.map f) i = f (nth l i) := by
  rw [nth_get (by simpa using h), nth_get h, List.getElem_map]

theorem ext_nth {α : Type} [Inhabited α] {l m : List α} (hl : l.length = m.length) (h : ∀ i, i < l.length → nth l i = nth m i) : l = m :=
  List.ext_getElem hl fun i h1 h2 => by rw [← nth_get h1, ← nth_get h2]; exact h i h1

/-! ### Rows of one cell an element -/
theorem cell_map {α : Type} [Inhabited α] (V : α → Value) (l : List α) (k : Nat) (h : k < l.length) : (l.map V)[k]? = some (V (nth l k)) := by
  rw [List.getElem?_map, nth_eq h]; rfl

theorem splice_map {α : Type} (V : α → Value) (l : List α) (k : Nat) (a : α) (h : k < l.length) : splice (l.map V) k [V a] = (l.set k a).map V := by
  unfold splice
  rw [List.map_set, List.set_eq_take_append_cons_drop, if_pos (by simpa using h)]
  simp

theorem zerosL_map {α : Type} (V : α → Value) (a : α) (n : Nat) : zerosL [V a] n = (List.replicate n a).map V := by
  induction n with
  | zero => rfl
  | succ n ih => simp only [zerosL, ih, List.replicate_succ, List.map_cons, List.cons_append, List.nil_append]

/-! ### Rows of more cells an element -/
def flat {α : Type} (E : α → List Value) (l : List α) : List Value := (l.map E).flatten

theorem flat_length {α : Type} {E : α → List Value} {n : Nat} (hE : ∀ a, (E a).length = n) (l : List α) : (flat E l).length = l.length * n := by
  unfold flat
  induction l with
  | nil => simp
  | cons a l ih => rw [List.map_cons, List.flatten_cons, List.length_append, hE, ih, List.length_cons, Nat.succ_mul]; omega

theorem flat_drop {α : Type} {E : α → List Value} {n : Nat} (hE : ∀ a, (E a).length = n) (l : List α) (k : Nat) : (flat E l).drop (k * n) = flat E (l.drop k) := by
  unfold flat
  induction l generalizing k with
  | nil => simp
  | cons a l ih =>
    cases k with
    | zero => simp
    | succ k =>
      rw [List.map_cons, List.flatten_cons, List.drop_append, hE]
      have e1 : (E a).drop ((k + 1) * n) = [] := List.drop_eq_nil_of_le (by rw [hE, Nat.succ_mul]; omega)
      have e2 : (k + 1) * n - n = k * n := by rw [Nat.succ_mul]; omega
      rw [e1, e2, List.nil_append, ih]
      simp

theorem flat_append {α : Type} {E : α → List Value} (l m : List α) : flat E (l ++ m) = flat E l ++ flat E m := by simp [flat]

theorem cellsAt_flat {α : Type} [Inhabited α] {E : α → List Value} {n : Nat} (hE : ∀ a, (E a).length = n) (l : List α) (k : Nat) (h : k < l.length) : cellsAt (flat E l) (k * n) n = some (E (nth l k)) := by
  unfold cellsAt
  rw [flat_length hE, flat_drop hE]
  have h1 : (k + 1) * n ≤ l.length * n := Nat.mul_le_mul_right _ h
  rw [Nat.succ_mul] at h1
  rw [if_pos h1, List.drop_eq_getElem_cons h, nth_get h]
  unfold flat
  rw [List.map_cons, List.flatten_cons, List.take_append, hE, Nat.sub_self, List.take_zero, List.append_nil, List.take_of_length_le (Nat.le_of_eq (hE _))]

theorem cell_flat {α : Type} [Inhabited α] {E : α → List Value} {n : Nat} (hE : ∀ a, (E a).length = n) (l : List α) (k j : Nat) (h : k < l.length) (hj : j < n) : (flat E l)[k * n + j]? = (E (nth l k))[j]? := by
  have e : (flat E l)[k * n + j]? = ((flat E l).drop (k * n))[j]? := by rw [List.getElem?_drop]
  rw [e, flat_drop hE, List.drop_eq_getElem_cons h, nth_get h]
  unfold flat
  rw [List.map_cons, List.flatten_cons, List.getElem?_append_left (by rw [hE]; exact hj)]

theorem splice_flat {α : Type} {E : α → List Value} {n : Nat} (hE : ∀ a, (E a).length = n) (l : List α) (k : Nat) (a : α) (h : k < l.length) : splice (flat E l) (k * n) (E a) = flat E (l.set k a) := by
  unfold splice
  rw [hE, show k * n + n = (k + 1) * n from by rw [Nat.succ_mul], flat_drop hE]
  have e1 : (flat E l).take (k * n) = flat E (l.take k) := by
    have : flat E l = flat E (l.take k) ++ flat E (l.drop k) := by rw [← flat_append, List.take_append_drop]
    rw [this, List.take_append_of_le_length (by rw [flat_length hE, List.length_take]; exact Nat.mul_le_mul_right _ (by omega)), List.take_of_length_le (by rw [flat_length hE, List.length_take]; exact Nat.mul_le_mul_right _ (by omega))]
  rw [e1, List.set_eq_take_append_cons_drop, if_pos h, flat_append]
  unfold flat
  simp

theorem zerosL_flat {α : Type} {E : α → List Value} (a : α) (n : Nat) : zerosL (E a) n = flat E (List.replicate n a) := by
  unfold flat
  induction n with
  | zero => rfl
  | succ n ih => simp only [zerosL, ih, List.replicate_succ, List.map_cons, List.flatten_cons]

/-! ### Whole numbers within their kind -/
theorem binV_add {a b : Int} (h1 : -9223372036854775808 ≤ a + b) (h2 : a + b ≤ 9223372036854775807) : binV .add .i64 a b = some (I (a + b)) := by
  show some (Value.int .i64 (IntKind.wrap .i64 (a + b))) = _
  rw [wrap_i64 h1 h2]
theorem binV_sub {a b : Int} (h1 : -9223372036854775808 ≤ a - b) (h2 : a - b ≤ 9223372036854775807) : binV .sub .i64 a b = some (I (a - b)) := by
  show some (Value.int .i64 (IntKind.wrap .i64 (a - b))) = _
  rw [wrap_i64 h1 h2]
theorem binV_mul {a b : Int} (h1 : -9223372036854775808 ≤ a * b) (h2 : a * b ≤ 9223372036854775807) : binV .mul .i64 a b = some (I (a * b)) := by
  show some (Value.int .i64 (IntKind.wrap .i64 (a * b))) = _
  rw [wrap_i64 h1 h2]

theorem Src.ints {O : Objs} {b n c : Nat} {ro : Bool} {l : List Int} (hk : Knows O b ⟨1, ro, l.map I⟩) (hn : n = l.length) : Src O 1 (Row b 0 n c) n (l.map I) := by
  subst hn
  refine Src.of hk (by simp) ?_
  simp only [List.drop_zero, Nat.mul_one]
  exact List.take_of_length_le (by simp)

end Go.Proofs.Ytjmklialkjncaaa.Eng
