/- Ways back to the source, in plain lists. Own work; no condition. -/
import Derived.Test.YtjmklialkjncaaaFlQ
set_option linter.unusedVariables false
set_option linter.unusedSimpArgs false
namespace Go.Proofs.Ytjmklialkjncaaa.Eng

/-- A way from a node back to the source: the edges and the nodes that they lead to. -/
inductive Way (n : Net4) (f : List Int) (l : List Int) : Int → List (Nat × Int) → Prop
  | root : Way n f l n.source []
  | step {v : Int} {i : Nat} {p : List (Nat × Int)} : 0 ≤ v → v < n.nodes → nth l v.toNat = i → i < n.edges.length → (restR (nth n.edges i) (nth f i) (otherR (nth n.edges i) v)).1 = v →
      0 < (restR (nth n.edges i) (nth f i) (otherR (nth n.edges i) v)).2 → (∀ q ∈ p, q.2 ≠ v) → v ≠ n.source → Way n f l (otherR (nth n.edges i) v) p → Way n f l v ((i, v) :: p)

structure Ways (n : Net4) (f : List Int) (S : BS) : Prop where
  good : Good n S
  way : ∀ q ∈ S.queue, ∃ p, Way n f S.by_ q p
  seen : ∀ v, 0 ≤ v → v < n.nodes → nth S.by_ v.toNat ≠ -2 → v ∈ S.queue
  tell : ∀ q ∈ S.queue, nth S.by_ q.toNat ≠ -2
  src : nth S.by_ n.source.toNat = -1

theorem Way.inside {n : Net4} (hn : Sound n) {f l : List Int} {v : Int} {p : List (Nat × Int)} (h : Way n f l v p) : 0 ≤ v ∧ v < n.nodes := by
  cases h with
  | root => exact hn.source
  | step h1 h2 => exact ⟨h1, h2⟩

/-- Nodes of a way have been visited. -/
theorem Way.visited {n : Net4} {f l : List Int} {v : Int} {p : List (Nat × Int)} (h : Way n f l v p) : ∀ q ∈ p, 0 ≤ q.2 ∧ q.2 < n.nodes ∧ nth l q.2.toNat ≠ -2 := by
  induction h with
  | root => intro q hq; simp at hq
  | @step v i p h1 h2 h3 _ _ _ _ _ _ ih =>
    intro q hq
    rcases List.mem_cons.1 hq with rfl | hq
    · exact ⟨h1, h2, by rw [h3]; omega⟩
    · exact ih q hq

/-- A way stays one when another node is visited. -/
theorem Way.set {n : Net4} (hn : Sound n) {f l : List Int} (hl : (l.length : Int) = n.nodes) {v : Int} {p : List (Nat × Int)} (h : Way n f l v p) {w : Int} {j : Int} (hw0 : 0 ≤ w) (hw : w < n.nodes) (hnew : nth l w.toNat = -2) : Way n f (l.set w.toNat j) v p := by
  induction h with
  | root => exact .root
  | @step v i p h1 h2 h3 h4 h5 h6 h7 h8 _ ih =>
    refine .step h1 h2 ?_ h4 h5 h6 h7 h8 ih
    rw [nth_set (by omega) (by omega), if_neg, h3]
    intro e
    rw [← e, hnew] at h3
    omega

theorem other_rest {e : E4} {x u : Int} (hab : e.a ≠ e.b) (h : 0 < (restR e x u).2) : otherR e (restR e x u).1 = u := by
  unfold restR at h ⊢
  unfold otherR
  by_cases ha : e.a = u
  · simp only [if_pos ha] at h ⊢
    rw [if_neg hab]; exact ha
  · by_cases hb : e.b = u
    · simp only [if_neg ha, if_pos hb] at h ⊢
      rw [if_pos trivial]; exact hb
    · simp only [if_neg ha, if_neg hb] at h
      omega

theorem Ways.visit {n : Net4} (hn : Sound n) {f : List Int} {u : Int} {i : Nat} (hi : i < n.edges.length) {S : BS} (hw : Ways n f S) (hu : u ∈ S.queue) (h : 0 < (restR (nth n.edges i) (nth f i) u).2) (h2 : nth S.by_ (restR (nth n.edges i) (nth f i) u).1.toNat = -2) :
    Ways n f ⟨S.by_.set (restR (nth n.edges i) (nth f i) u).1.toNat i, S.queue ++ [(restR (nth n.edges i) (nth f i) u).1]⟩ := by
  have hgd := hw.good.push hn hi h h2
  have hl := hw.good.len
  obtain ⟨t0, t1⟩ := restR_inside hn hi (nth f i) u
  have he := hn.at hi
  have hoth := other_rest he.2.2.2.2.1 h
  have hns := hn.source
  generalize hr : (restR (nth n.edges i) (nth f i) u).1 = w at h2 hgd t0 t1 hoth ⊢
  have hws : w ≠ n.source := by
    intro e
    rw [e, hw.src] at h2
    omega
  have hnth : ∀ v : Int, 0 ≤ v → v < n.nodes → nth (S.by_.set w.toNat (i : Int)) v.toNat = if w = v then (i : Int) else nth S.by_ v.toNat := by
    intro v v0 v1
    rw [nth_set (by omega) (by omega)]
    by_cases e : w = v
    · rw [if_pos e, if_pos (by rw [e])]
    · rw [if_neg e, if_neg (by omega)]
  refine ⟨hgd, fun q hq => ?_, fun v v0 v1 hv => ?_, fun q hq => ?_, ?_⟩
  · rcases List.mem_append.1 hq with hq | hq
    · obtain ⟨p, hp⟩ := hw.way q hq
      exact ⟨p, hp.set hn hl t0 t1 h2⟩
    · rw [List.mem_singleton] at hq
      subst hq
      obtain ⟨p, hp⟩ := hw.way u hu
      refine ⟨(i, q) :: p, .step t0 t1 (by rw [hnth q t0 t1, if_pos rfl]) hi (by rw [hoth]; exact hr) (by rw [hoth]; exact h) (fun x hx e => ?_) hws (by rw [hoth]; exact hp.set hn hl t0 t1 h2)⟩
      have := (hp.visited x hx).2.2
      rw [e, h2] at this
      exact this rfl
  · rw [hnth v v0 v1] at hv
    by_cases e : w = v
    · subst e; exact List.mem_append_right _ (List.mem_singleton.2 rfl)
    · rw [if_neg e] at hv
      exact List.mem_append_left _ (hw.seen v v0 v1 hv)
  · have hq' := hgd.inside q hq
    rw [hnth q hq'.1 hq'.2]
    by_cases e : w = q
    · rw [if_pos e]; omega
    · rw [if_neg e]
      rcases List.mem_append.1 hq with hq | hq
      · exact hw.tell q hq
      · exact absurd (List.mem_singleton.1 hq).symm e
  · rw [hnth n.source hns.1 hns.2, if_neg hws]
    exact hw.src

theorem Ways.start {n : Net4} (hn : Sound n) (f : List Int) : Ways n f (startBS n) := by
  have h1 := hn.nodes
  have h2 := hn.source
  have hat : ∀ v : Int, 0 ≤ v → v < n.nodes → nth (startBS n).by_ v.toNat = if n.source = v then -1 else -2 := by
    intro v v0 v1
    unfold startBS
    simp only
    rw [nth_set (by rw [List.length_replicate]; omega) (by rw [List.length_replicate]; omega), nth_get (l := List.replicate n.nodes.toNat (-2)) (by rw [List.length_replicate]; omega), List.getElem_replicate]
    by_cases e : n.source = v
    · rw [if_pos e, if_pos (by rw [e])]
    · rw [if_neg e, if_neg (by omega)]
  refine ⟨Good.start hn, fun q hq => ?_, fun v v0 v1 hv => ?_, fun q hq => ?_, ?_⟩
  · have : q = n.source := by simpa [startBS] using hq
    subst this
    exact ⟨[], .root⟩
  · rw [hat v v0 v1] at hv
    split at hv
    · rename_i e
      subst e
      simp [startBS]
    · exact absurd rfl hv
  · have : q = n.source := by simpa [startBS] using hq
    subst this
    rw [hat _ h2.1 h2.2, if_pos rfl]; omega
  · rw [hat _ h2.1 h2.2, if_pos rfl]

theorem try_cases {n : Net4} {f : List Int} {u : Int} {i : Nat} {S S' : BS} (h : tryE n f u i S = some S') :
    0 < (restR (nth n.edges i) (nth f i) u).2 ∧ nth S.by_ (restR (nth n.edges i) (nth f i) u).1.toNat = -2 ∧ S' = ⟨S.by_.set (restR (nth n.edges i) (nth f i) u).1.toNat i, S.queue ++ [(restR (nth n.edges i) (nth f i) u).1]⟩ := by
  unfold tryE at h
  split at h
  · cases h
  · rename_i hc
    have h1 : ¬ (restR (nth n.edges i) (nth f i) u).2 ≤ 0 := fun q => hc (.inl q)
    have h2 : nth S.by_ (restR (nth n.edges i) (nth f i) u).1.toNat = -2 := Classical.byContradiction fun q => hc (.inr q)
    exact ⟨by omega, h2, (Option.some.inj h).symm⟩

theorem Ways.inner {n : Net4} (hn : Sound n) {f : List Int} {stop : Bool} {u : Int} : ∀ (l : List Nat), (∀ i ∈ l, i < n.edges.length) → ∀ (S : BS), Ways n f S → u ∈ S.queue → Ways n f (innerL n f stop u l S).1 ∧ u ∈ (innerL n f stop u l S).1.queue := by
  intro l
  induction l with
  | nil => intro _ S hw hu; exact ⟨hw, hu⟩
  | cons i l ih =>
    intro hl S hw hu
    have hl' : ∀ i ∈ l, i < n.edges.length := fun j hj => hl j (by simp [hj])
    cases h : tryE n f u i S with
    | none => rw [inner_skip h]; exact ih hl' S hw hu
    | some S' =>
      obtain ⟨h1, h2, h3⟩ := try_cases h
      have hw' : Ways n f S' := by rw [h3]; exact hw.visit hn (hl i (by simp)) hu h1 h2
      have hu' : u ∈ S'.queue := by rw [h3]; exact List.mem_append_left _ hu
      by_cases hs : stop = true ∧ (restR (nth n.edges i) (nth f i) u).1 = n.sink
      · rw [inner_stop h hs]; exact ⟨hw', hu'⟩
      · rw [inner_visit h hs]; exact ih hl' S' hw' hu'

theorem Ways.outer {n : Net4} (hn : Sound n) {f : List Int} {stop : Bool} : ∀ (fuel : Nat) (S : BS) (k : Nat), Ways n f S → ∃ S', outerL n f stop fuel S k = S'.by_ ∧ Ways n f S' := by
  intro fuel
  induction fuel with
  | zero => intro S k hw; exact ⟨S, rfl, hw⟩
  | succ fuel ih =>
    intro S k hw
    unfold outerL
    split
    · rename_i hk
      obtain ⟨h1, h2⟩ := hw.inner hn (stop := stop) (List.range n.edges.length) (fun i hi => List.mem_range.1 hi) S (u := nth S.queue k) (nth_mem hk)
      split
      · exact ⟨_, rfl, h1⟩
      · exact ih _ _ h1
    · exact ⟨S, rfl, hw⟩

theorem search_ways {n : Net4} (hn : Sound n) (f : List Int) (stop : Bool) : ∃ S, searchR n f stop = S.by_ ∧ Ways n f S := Ways.outer hn _ _ _ (Ways.start hn f)

end Go.Proofs.Ytjmklialkjncaaa.Eng
