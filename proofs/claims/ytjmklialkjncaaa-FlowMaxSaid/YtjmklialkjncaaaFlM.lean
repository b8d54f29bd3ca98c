/- The search for a way, in plain lists. Own work; no condition. -/
import Derived.Test.YtjmklialkjncaaaFlG
set_option linter.unusedVariables false
set_option linter.unusedSimpArgs false
namespace Go.Proofs.Ytjmklialkjncaaa.Eng

structure BS where
  by_ : List Int
  queue : List Int

/-- An edge is looked at from a node: what it leads to, if that is new. -/
def tryE (n : Net4) (f : List Int) (u : Int) (i : Nat) (S : BS) : Option BS :=
  if (restR (nth n.edges i) (nth f i) u).2 ≤ 0 ∨ nth S.by_ (restR (nth n.edges i) (nth f i) u).1.toNat ≠ -2 then none
  else some ⟨S.by_.set (restR (nth n.edges i) (nth f i) u).1.toNat i, S.queue ++ [(restR (nth n.edges i) (nth f i) u).1]⟩

def innerL (n : Net4) (f : List Int) (stop : Bool) (u : Int) : List Nat → BS → BS × Bool
  | [], S => (S, false)
  | i :: l, S => match tryE n f u i S with
    | none => innerL n f stop u l S
    | some S' => if stop = true ∧ (restR (nth n.edges i) (nth f i) u).1 = n.sink then (S', true) else innerL n f stop u l S'

def outerL (n : Net4) (f : List Int) (stop : Bool) : Nat → BS → Nat → List Int
  | 0, S, _ => S.by_
  | fuel + 1, S, k => if k < S.queue.length then
      (if (innerL n f stop (nth S.queue k) (List.range n.edges.length) S).2 = true then (innerL n f stop (nth S.queue k) (List.range n.edges.length) S).1.by_
      else outerL n f stop fuel (innerL n f stop (nth S.queue k) (List.range n.edges.length) S).1 (k + 1))
    else S.by_

def startBS (n : Net4) : BS := ⟨(List.replicate n.nodes.toNat (-2)).set n.source.toNat (-1), [n.source]⟩

def searchR (n : Net4) (f : List Int) (stop : Bool) : List Int := outerL n f stop n.nodes.toNat (startBS n) 0

/-- A network in order, and a flow within its bounds. -/
structure Sound (n : Net4) : Prop where
  nodes : 2 ≤ n.nodes ∧ n.nodes ≤ 1024
  len : n.edges.length ≤ 8192
  source : 0 ≤ n.source ∧ n.source < n.nodes
  sink : 0 ≤ n.sink ∧ n.sink < n.nodes
  ne : n.source ≠ n.sink
  edge : ∀ i, i < n.edges.length → ¬ BadEdge n (nth n.edges i)

theorem Wrong.sound {n : Net4} (h : Wrong n 0) : Sound n := by
  have h' : ¬ Bad4 n ∧ ¬ Bad1 n ∧ ¬ Bad5 n := by
    unfold Wrong at h
    rcases h with ⟨_, h⟩ | ⟨_, _, h⟩ | ⟨_, _, _, h⟩ | ⟨h1, h2, h3, _⟩
    · omega
    · omega
    · omega
    · exact ⟨h1, h2, h3⟩
  obtain ⟨h4, h1, h5⟩ := h'
  unfold Bad4 at h4
  unfold Bad1 at h1
  exact ⟨by omega, by omega, by omega, by omega, by omega, fun i hi hb => h5 ⟨i, hi, hb⟩⟩

structure Flow (n : Net4) (f : List Int) : Prop where
  len : f.length = n.edges.length
  cap : ∀ i, i < n.edges.length → -(nth n.edges i).back ≤ nth f i ∧ nth f i ≤ (nth n.edges i).cap

theorem Sound.at {n : Net4} (hn : Sound n) {i : Nat} (hi : i < n.edges.length) : 0 ≤ (nth n.edges i).a ∧ (nth n.edges i).a < n.nodes ∧ 0 ≤ (nth n.edges i).b ∧ (nth n.edges i).b < n.nodes ∧ (nth n.edges i).a ≠ (nth n.edges i).b ∧
    0 ≤ (nth n.edges i).cap ∧ (nth n.edges i).cap ≤ 1099511627776 ∧ 0 ≤ (nth n.edges i).back ∧ (nth n.edges i).back ≤ 1099511627776 := by
  have := hn.edge i hi
  unfold BadEdge at this
  omega

/-- What holds all along a search. -/
structure Good (n : Net4) (S : BS) : Prop where
  len : (S.by_.length : Int) = n.nodes
  room : S.queue.length + S.by_.count (-2) = S.by_.length
  inside : ∀ q ∈ S.queue, 0 ≤ q ∧ q < n.nodes

theorem restR_inside {n : Net4} (hn : Sound n) {i : Nat} (hi : i < n.edges.length) (x u : Int) : 0 ≤ (restR (nth n.edges i) x u).1 ∧ (restR (nth n.edges i) x u).1 < n.nodes := by
  have := hn.at hi
  have := hn.nodes
  unfold restR
  split
  · exact ⟨by simp only; omega, by simp only; omega⟩
  · split
    · exact ⟨by simp only; omega, by simp only; omega⟩
    · exact ⟨by simp only; omega, by simp only; omega⟩

theorem count_set_of {l : List Int} {k : Nat} {a : Int} (hk : k < l.length) (h : nth l k = -2) (ha : a ≠ -2) : (l.set k a).count (-2) + 1 = l.count (-2) := by
  rw [nth_get hk] at h
  have e := List.take_append_drop k l
  have e2 : l.drop k = l[k] :: l.drop (k + 1) := List.drop_eq_getElem_cons hk
  have h1 : l.count (-2) = (l.take k).count (-2) + (1 + (l.drop (k + 1)).count (-2)) := by
    conv => lhs; rw [← e]
    rw [List.count_append, e2, h, List.count_cons_self]
    omega
  rw [List.set_eq_take_append_cons_drop, if_pos hk, List.count_append, List.count_cons_of_ne (by simpa using ha)]
  omega

theorem Good.tryE {n : Net4} (hn : Sound n) {f : List Int} {u : Int} {i : Nat} (hi : i < n.edges.length) {S S' : BS} (hg : Good n S) (h : tryE n f u i S = some S') : Good n S' := by
  unfold Eng.tryE at h
  split at h
  · cases h
  · rename_i hc
    obtain rfl := Option.some.inj h
    obtain ⟨r1, r2⟩ := restR_inside hn hi (nth f i) u
    have hlt : (restR (nth n.edges i) (nth f i) u).1.toNat < S.by_.length := by have := hg.len; omega
    have hby : nth S.by_ (restR (nth n.edges i) (nth f i) u).1.toNat = -2 := by
      rcases Classical.em (nth S.by_ (restR (nth n.edges i) (nth f i) u).1.toNat = -2) with q | q
      · exact q
      · exact absurd (.inr q) hc
    have := count_set_of (a := (i : Int)) hlt hby (by omega)
    refine ⟨by rw [List.length_set]; exact hg.len, ?_, fun q hq => ?_⟩
    · show (S.queue ++ [_]).length + (S.by_.set _ _).count (-2) = (S.by_.set _ _).length
      rw [List.length_set, List.length_append, List.length_singleton]
      have := hg.room
      omega
    · rcases List.mem_append.1 hq with hq | hq
      · exact hg.inside q hq
      · rw [List.mem_singleton] at hq
        subst hq
        exact ⟨r1, r2⟩

theorem Good.start {n : Net4} (hn : Sound n) : Good n (startBS n) := by
  have h1 := hn.nodes
  have h2 := hn.source
  refine ⟨?_, ?_, fun q hq => ?_⟩
  · unfold startBS
    rw [List.length_set, List.length_replicate]
    omega
  · unfold startBS
    have := count_set_of (l := List.replicate n.nodes.toNat (-2)) (k := n.source.toNat) (a := -1) (by rw [List.length_replicate]; omega) (by rw [nth_get (by rw [List.length_replicate]; omega)]; simp) (by omega)
    rw [List.count_replicate_self] at this
    simp only [List.length_set, List.length_replicate, List.length_singleton]
    omega
  · have : q = n.source := by simpa [startBS] using hq
    subst this
    exact h2

/-- Edges that do not touch the node are passed by. -/
theorem innerL_filter {n : Net4} {f : List Int} {stop : Bool} {u : Int} (l : List Nat) (S : BS) :
    innerL n f stop u l S = innerL n f stop u (l.filter fun i => decide ((nth n.edges i).a = u ∨ (nth n.edges i).b = u)) S := by
  induction l generalizing S with
  | nil => rfl
  | cons i l ih =>
    rw [List.filter_cons]
    by_cases h : (nth n.edges i).a = u ∨ (nth n.edges i).b = u
    · rw [if_pos (decide_eq_true h)]
      unfold innerL
      split
      · exact ih S
      · split
        · rfl
        · exact ih _
    · rw [if_neg (by simpa using h)]
      have e : tryE n f u i S = none := by
        unfold tryE restR
        rw [if_pos]
        left
        rw [if_neg (fun q => h (.inl q)), if_neg (fun q => h (.inr q))]
        exact Int.le_refl 0
      conv => lhs; unfold innerL
      rw [e]
      exact ih S

end Go.Proofs.Ytjmklialkjncaaa.Eng
