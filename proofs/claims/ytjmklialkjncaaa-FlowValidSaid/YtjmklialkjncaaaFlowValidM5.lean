/- Flows and cuts: duality, in plain lists. Own work; no condition. | The law FlowMore, walked. Own work; no condition. | The law FlowProofs, walked. Own work; no condition. | The law FlowValid, walked. Own work; no condition. -/
import Derived.Test.YtjmklialkjncaaaFlowValidM1
import Derived.Test.YtjmklialkjncaaaFlowValidM2
import Derived.Test.YtjmklialkjncaaaFlowValidM3
import Derived.Test.YtjmklialkjncaaaFlowValidM4
set_option linter.unusedVariables false
set_option linter.unusedSimpArgs false
namespace Go.Proofs.Ytjmklialkjncaaa.Eng

/-! ### Sums -/
theorem sumTo_add {g h : Nat → Int} : ∀ m, sumTo (fun i => g i + h i) m = sumTo g m + sumTo h m
  | 0 => rfl
  | m + 1 => by
    show sumTo _ m + (g m + h m) = (sumTo g m + g m) + (sumTo h m + h m)
    rw [sumTo_add m]; omega

theorem sumTo_swap {g : Nat → Nat → Int} (m : Nat) : ∀ k, sumTo (fun v => sumTo (fun i => g v i) m) k = sumTo (fun i => sumTo (fun v => g v i) k) m
  | 0 => by
    show (0 : Int) = sumTo (fun i => 0) m
    rw [sumTo_zero fun _ _ => rfl]
  | k + 1 => by
    show sumTo _ k + sumTo (fun i => g k i) m = sumTo (fun i => sumTo (fun v => g v i) k + g k i) m
    rw [sumTo_add, sumTo_swap m k]

theorem sumTo_single {a : Nat} {x : Int} : ∀ k, sumTo (fun v => if v = a then x else 0) k = if a < k then x else 0
  | 0 => by
    show (0 : Int) = _
    rw [if_neg (by omega)]
  | k + 1 => by
    show sumTo _ k + (if k = a then x else 0) = _
    rw [sumTo_single k]
    by_cases h1 : a < k
    · rw [if_pos h1, if_neg (by omega), if_pos (by omega)]; omega
    · by_cases h2 : k = a
      · rw [if_neg h1, if_pos h2, if_pos (by omega)]; omega
      · rw [if_neg h1, if_neg h2, if_neg (by omega)]; rfl

theorem sumTo_mono {g h : Nat → Int} : ∀ {m : Nat}, (∀ i, i < m → g i ≤ h i) → sumTo g m ≤ sumTo h m
  | 0, _ => Int.le_refl _
  | m + 1, hh => by
    have h1 := sumTo_mono (m := m) fun i hi => hh i (Nat.lt_succ_of_lt hi)
    have h2 := hh m (Nat.lt_succ_self m)
    show sumTo g m + g m ≤ sumTo h m + h m
    omega

theorem sumTo_tight {g h : Nat → Int} : ∀ {m : Nat}, (∀ i, i < m → g i ≤ h i) → sumTo h m ≤ sumTo g m → ∀ i, i < m → g i = h i
  | 0, _, _, i, hi => absurd hi (Nat.not_lt_zero _)
  | m + 1, hh, he, i, hi => by
    have h1 := sumTo_mono (m := m) fun i hi => hh i (Nat.lt_succ_of_lt hi)
    have h2 := hh m (Nat.lt_succ_self m)
    have he' : sumTo h m + h m ≤ sumTo g m + g m := he
    rcases Nat.lt_or_ge i m with q | q
    · exact sumTo_tight (fun i hi => hh i (Nat.lt_succ_of_lt hi)) (by omega) i q
    · have e : i = m := by omega
      subst e
      omega

theorem sumTo_neg {g : Nat → Int} : ∀ m, sumTo (fun i => - g i) m = - sumTo g m
  | 0 => rfl
  | m + 1 => by
    show sumTo _ m + - g m = -(sumTo g m + g m)
    rw [sumTo_neg m]; omega

/-! ### What crosses a set -/
/-- What a flow carries over an edge out of a set. -/
def carries (n : Net4) (f : List Int) (s : List Bool) (i : Nat) : Int :=
  (if nth s (nth n.edges i).a.toNat = true then nth f i else 0) - (if nth s (nth n.edges i).b.toNat = true then nth f i else 0)

theorem carries_le {n : Net4} (hn : Sound n) {f : List Int} (hf : Flow n f) (s : List Bool) {i : Nat} (hi : i < n.edges.length) : carries n f s i ≤ crosses n s i := by
  have hc := hf.cap i hi
  unfold carries crosses
  cases ha : nth s (nth n.edges i).a.toNat <;> cases hb : nth s (nth n.edges i).b.toNat <;> simp <;> omega

theorem netOut_set {n : Net4} (hn : Sound n) (f : List Int) (s : List Bool) : sumTo (fun v => if nth s v = true then netOut n f (v : Int) else 0) n.nodes.toNat = sumTo (carries n f s) n.edges.length := by
  have e1 : ∀ v, v < n.nodes.toNat → (if nth s v = true then netOut n f (v : Int) else 0) = sumTo (fun i => if nth s v = true then leaves n (v : Int) i (nth f i) else 0) n.edges.length := by
    intro v _
    by_cases h : nth s v = true
    · rw [if_pos h]
      exact sumTo_congr fun i _ => by rw [if_pos h]
    · rw [if_neg h, sumTo_zero]
      intro i _
      rw [if_neg h]
  rw [sumTo_congr e1, sumTo_swap]
  refine sumTo_congr fun i hi => ?_
  have he := hn.at hi
  have e2 : ∀ v, v < n.nodes.toNat → (if nth s v = true then leaves n (v : Int) i (nth f i) else 0) =
      (if v = (nth n.edges i).a.toNat then (if nth s (nth n.edges i).a.toNat = true then nth f i else 0) else 0) + (if v = (nth n.edges i).b.toNat then -(if nth s (nth n.edges i).b.toNat = true then nth f i else 0) else 0) := by
    intro v _
    unfold leaves
    by_cases ha : v = (nth n.edges i).a.toNat
    · have hb : ¬ v = (nth n.edges i).b.toNat := by omega
      rw [if_pos ha, if_neg hb, ← ha, if_pos (show (nth n.edges i).a = (v : Int) by omega), if_neg (show ¬ (nth n.edges i).b = (v : Int) by omega)]
      split <;> omega
    · by_cases hb : v = (nth n.edges i).b.toNat
      · rw [if_neg ha, if_pos hb, ← hb, if_neg (show ¬ (nth n.edges i).a = (v : Int) by omega), if_pos (show (nth n.edges i).b = (v : Int) by omega)]
        split <;> omega
      · rw [if_neg ha, if_neg hb, if_neg (show ¬ (nth n.edges i).a = (v : Int) by omega), if_neg (show ¬ (nth n.edges i).b = (v : Int) by omega)]
        split <;> rfl
  rw [sumTo_congr e2, sumTo_add, sumTo_single, sumTo_single, if_pos (show (nth n.edges i).a.toNat < n.nodes.toNat by omega), if_pos (show (nth n.edges i).b.toNat < n.nodes.toNat by omega)]
  unfold carries
  omega

/-- A set with the source and without the sink. -/
def Parts (n : Net4) (s : List Bool) : Prop := nth s n.source.toNat = true ∧ nth s n.sink.toNat = false

theorem value_set {n : Net4} (hn : Sound n) {f : List Int} (hf : FlowOk n f) {s : List Bool} (hs : Parts n s) : netOut n f n.source = sumTo (carries n f s) n.edges.length := by
  rw [← netOut_set hn]
  have e : ∀ v, v < n.nodes.toNat → (if nth s v = true then netOut n f (v : Int) else 0) = if v = n.source.toNat then netOut n f n.source else 0 := by
    intro v hv
    by_cases h1 : v = n.source.toNat
    · rw [if_pos h1, h1, if_pos hs.1]
      congr 1
      have := hn.source
      omega
    · rw [if_neg h1]
      by_cases h2 : nth s v = true
      · rw [if_pos h2]
        refine hf.2 v (by omega) (by omega) (by omega) fun q => ?_
        have : v = n.sink.toNat := by omega
        rw [this, hs.2] at h2
        cases h2
      · rw [if_neg h2]
  rw [sumTo_congr e, sumTo_single, if_pos]
  have := hn.source
  omega

/-- No flow has more than what crosses a set. -/
theorem weak {n : Net4} (hn : Sound n) {f : List Int} (hf : FlowOk n f) {s : List Bool} (hs : Parts n s) : netOut n f n.source ≤ across n s := by
  rw [value_set hn hf hs]
  exact sumTo_mono fun i hi => carries_le hn hf.1 s hi

theorem tight {n : Net4} (hn : Sound n) {f : List Int} (hf : FlowOk n f) {s : List Bool} (hs : Parts n s) (he : across n s ≤ netOut n f n.source) : ∀ i, i < n.edges.length → carries n f s i = crosses n s i := by
  rw [value_set hn hf hs] at he
  exact sumTo_tight (fun i hi => carries_le hn hf.1 s hi) he

/-! ### The search to its end is closed -/
theorem inner_keep {n : Net4} (hn : Sound n) {f : List Int} {stop : Bool} {u : Int} : ∀ (l : List Nat), (∀ i ∈ l, i < n.edges.length) → ∀ (S : BS), Good n S →
    (∀ w : Int, 0 ≤ w → w < n.nodes → nth S.by_ w.toNat ≠ -2 → nth (innerL n f stop u l S).1.by_ w.toNat ≠ -2) ∧ (∀ j, j < S.queue.length → nth (innerL n f stop u l S).1.queue j = nth S.queue j) ∧ S.queue.length ≤ (innerL n f stop u l S).1.queue.length ∧ Good n (innerL n f stop u l S).1 := by
  intro l
  induction l with
  | nil => intro _ S hg; exact ⟨fun _ _ _ h => h, fun _ _ => rfl, Nat.le_refl _, hg⟩
  | cons i l ih =>
    intro hl S hg
    have hl' : ∀ i ∈ l, i < n.edges.length := fun j hj => hl j (by simp [hj])
    have hi := hl i (by simp)
    cases h : tryE n f u i S with
    | none => rw [inner_skip h]; exact ih hl' S hg
    | some S' =>
      obtain ⟨h1, h2, h3⟩ := try_cases h
      have hg' : Good n S' := hg.tryE hn hi h
      obtain ⟨t0, t1⟩ := restR_inside hn hi (nth f i) u
      have hlen := hg.len
      have key : (∀ w : Int, 0 ≤ w → w < n.nodes → nth S.by_ w.toNat ≠ -2 → nth S'.by_ w.toNat ≠ -2) ∧ (∀ j, j < S.queue.length → nth S'.queue j = nth S.queue j) ∧ S.queue.length ≤ S'.queue.length := by
        rw [h3]
        refine ⟨fun w w0 w1 hw => ?_, fun j hj => nth_append_left hj, by simp⟩
        simp only
        rw [nth_set (by omega) (by omega)]
        split
        · omega
        · exact hw
      by_cases hs : stop = true ∧ (restR (nth n.edges i) (nth f i) u).1 = n.sink
      · rw [inner_stop h hs]; exact ⟨key.1, key.2.1, key.2.2, hg'⟩
      · rw [inner_visit h hs]
        obtain ⟨r1, r2, r3, r4⟩ := ih hl' S' hg'
        exact ⟨fun w w0 w1 hw => r1 w w0 w1 (key.1 w w0 w1 hw), fun j hj => by rw [r2 j (Nat.lt_of_lt_of_le hj key.2.2), key.2.1 j hj], Nat.le_trans key.2.2 r3, r4⟩

/-- From a node that has been looked at, all that can be reached has been. -/
def Seen1 (n : Net4) (f : List Int) (by_ : List Int) (u : Int) : Prop := ∀ i, i < n.edges.length → 0 < (restR (nth n.edges i) (nth f i) u).2 → nth by_ (restR (nth n.edges i) (nth f i) u).1.toNat ≠ -2

theorem inner_all {n : Net4} (hn : Sound n) {f : List Int} {u : Int} : ∀ (l : List Nat), (∀ i ∈ l, i < n.edges.length) → ∀ (S : BS), Good n S →
    ∀ i ∈ l, 0 < (restR (nth n.edges i) (nth f i) u).2 → nth (innerL n f false u l S).1.by_ (restR (nth n.edges i) (nth f i) u).1.toNat ≠ -2 := by
  intro l
  induction l with
  | nil => intro _ S _ i hi; simp at hi
  | cons i l ih =>
    intro hl S hg j hj hr
    have hl' : ∀ i ∈ l, i < n.edges.length := fun j hj => hl j (by simp [hj])
    have hi := hl i (by simp)
    have hns : ¬ (false = true ∧ (restR (nth n.edges i) (nth f i) u).1 = n.sink) := fun q => by cases q.1
    cases h : tryE n f u i S with
    | none =>
      rw [inner_skip h]
      rcases List.mem_cons.1 hj with rfl | hj
      · obtain ⟨t0, t1⟩ := restR_inside hn hi (nth f j) u
        refine (inner_keep hn l hl' S hg).1 _ t0 t1 fun q => ?_
        rw [try_some hr q] at h
        cases h
      · exact ih hl' S hg j hj hr
    | some S' =>
      obtain ⟨h1, h2, h3⟩ := try_cases h
      have hg' : Good n S' := hg.tryE hn hi h
      rw [inner_visit h hns]
      rcases List.mem_cons.1 hj with rfl | hj
      · obtain ⟨t0, t1⟩ := restR_inside hn hi (nth f j) u
        refine (inner_keep hn l hl' S' hg').1 _ t0 t1 ?_
        have hlen := hg.len
        rw [h3]
        simp only
        rw [nth_set (by omega) (by omega), if_pos rfl]
        omega
      · exact ih hl' S' hg' j hj hr

theorem outer_closed {n : Net4} (hn : Sound n) {f : List Int} : ∀ (fuel : Nat) (S : BS) (k : Nat), Ways n f S → fuel + k = n.nodes.toNat → (∀ j, j < k → j < S.queue.length → Seen1 n f S.by_ (nth S.queue j)) →
    ∃ S', outerL n f false fuel S k = S'.by_ ∧ Ways n f S' ∧ ∀ u ∈ S'.queue, Seen1 n f S'.by_ u := by
  intro fuel
  induction fuel with
  | zero =>
    intro S k hw hk hc
    refine ⟨S, rfl, hw, fun u hu => ?_⟩
    obtain ⟨j, hj, rfl⟩ := List.mem_iff_getElem.1 hu
    have h1 := hw.good.room
    have h2 := hw.good.len
    rw [← nth_get hj]
    exact hc j (by omega) hj
  | succ fuel ih =>
    intro S k hw hk hc
    unfold outerL
    split
    · rename_i hkq
      have hin : ∀ i ∈ List.range n.edges.length, i < n.edges.length := fun i hi => List.mem_range.1 hi
      obtain ⟨w1, w2⟩ := hw.inner hn (stop := false) (List.range n.edges.length) hin S (u := nth S.queue k) (nth_mem hkq)
      obtain ⟨r1, r2, r3, r4⟩ := inner_keep hn (f := f) (stop := false) (u := nth S.queue k) (List.range n.edges.length) hin S hw.good
      have hall := inner_all hn (f := f) (u := nth S.queue k) (List.range n.edges.length) hin S hw.good
      have hb : (innerL n f false (nth S.queue k) (List.range n.edges.length) S).2 = false := by
        have : ∀ (l : List Nat) (S : BS), (innerL n f false (nth S.queue k) l S).2 = false := by
          intro l S
          generalize nth S.queue k = u
          induction l generalizing S with
          | nil => rfl
          | cons i l ih2 =>
            cases h : tryE n f u i S with
            | none => rw [inner_skip h]; exact ih2 S
            | some S' => rw [inner_visit h (fun q => by cases q.1)]; exact ih2 S'
        exact this _ S
      rw [if_neg (by rw [hb]; decide)]
      refine ih _ _ w1 (by omega) fun j hj hjl => ?_
      rcases Nat.lt_or_ge j k with q | q
      · rw [r2 j (by omega)]
        intro i hi hr
        obtain ⟨t0, t1⟩ := restR_inside hn hi (nth f i) (nth S.queue j)
        exact r1 _ t0 t1 (hc j q (by omega) i hi hr)
      · have e : j = k := by omega
        subst e
        rw [r2 j hkq]
        intro i hi hr
        exact hall i (List.mem_range.2 hi) hr
    · rename_i hkq
      refine ⟨S, rfl, hw, fun u hu => ?_⟩
      obtain ⟨j, hj, rfl⟩ := List.mem_iff_getElem.1 hu
      rw [← nth_get hj]
      exact hc j (by omega) hj

theorem search_closed {n : Net4} (hn : Sound n) (f : List Int) : ∃ S, searchR n f false = S.by_ ∧ Ways n f S ∧ ∀ u ∈ S.queue, Seen1 n f S.by_ u :=
  outer_closed hn _ _ _ (Ways.start hn f) rfl fun j hj => absurd hj (Nat.not_lt_zero _)

theorem reach_nth {n : Net4} (hn : Sound n) (f : List Int) {v : Int} (h0 : 0 ≤ v) (h1 : v < n.nodes) : nth (reach n f) v.toNat = decide (nth (searchR n f false) v.toNat ≠ -2) := by
  unfold reach
  have := search_len hn f false
  rw [nth_map (by omega)]

/-- What is reached goes along no rest out of it. -/
theorem reach_closed {n : Net4} (hn : Sound n) (f : List Int) {u : Int} (h0 : 0 ≤ u) (h1 : u < n.nodes) (hu : nth (reach n f) u.toNat = true) {i : Nat} (hi : i < n.edges.length) (hr : 0 < (restR (nth n.edges i) (nth f i) u).2) :
    nth (reach n f) (restR (nth n.edges i) (nth f i) u).1.toNat = true := by
  obtain ⟨S, e, hw, hc⟩ := search_closed hn f
  obtain ⟨t0, t1⟩ := restR_inside hn hi (nth f i) u
  rw [reach_nth hn f t0 t1, e]
  rw [reach_nth hn f h0 h1, e] at hu
  exact decide_eq_true (hc u (hw.seen u h0 h1 (of_decide_eq_true hu)) i hi hr)

theorem reach_source {n : Net4} (hn : Sound n) (f : List Int) : nth (reach n f) n.source.toNat = true := by
  obtain ⟨S, e, hw, _⟩ := search_closed hn f
  rw [reach_nth hn f hn.source.1 hn.source.2, e, hw.src]
  decide

/-- Where the sink is not reached, what is reached is crossed by the flow's value. -/
theorem reach_across {n : Net4} (hn : Sound n) {f : List Int} (hf : FlowOk n f) (hs : nth (searchR n f false) n.sink.toNat = -2) : Parts n (reach n f) ∧ across n (reach n f) = netOut n f n.source := by
  have hp : Parts n (reach n f) := ⟨reach_source hn f, by rw [reach_nth hn f hn.sink.1 hn.sink.2, hs]; decide⟩
  refine ⟨hp, ?_⟩
  rw [value_set hn hf hp]
  refine sumTo_congr fun i hi => ?_
  have he := hn.at hi
  have hc := hf.1.cap i hi
  have ka := fun h => reach_closed hn f (u := (nth n.edges i).a) he.1 he.2.1 h hi
  have kb := fun h => reach_closed hn f (u := (nth n.edges i).b) he.2.2.1 he.2.2.2.1 h hi
  have ra : restR (nth n.edges i) (nth f i) (nth n.edges i).a = ((nth n.edges i).b, (nth n.edges i).cap - nth f i) := by unfold restR; rw [if_pos rfl]
  have rb : restR (nth n.edges i) (nth f i) (nth n.edges i).b = ((nth n.edges i).a, (nth n.edges i).back + nth f i) := by unfold restR; rw [if_neg (by omega), if_pos rfl]
  rw [ra] at ka
  rw [rb] at kb
  unfold carries crosses
  cases ha : nth (reach n f) (nth n.edges i).a.toNat <;> cases hb : nth (reach n f) (nth n.edges i).b.toNat
  · simp
  · have : ¬ 0 < (nth n.edges i).back + nth f i := fun q => by
      have := kb hb q
      simp only at this
      rw [ha] at this; cases this
    simp
    omega
  · have : ¬ 0 < (nth n.edges i).cap - nth f i := fun q => by
      have := ka ha q
      simp only at this
      rw [hb] at this; cases this
    simp
    omega
  · simp

/-- Of a set that is crossed by no more, what is reached is a part. -/
theorem reach_least {n : Net4} (hn : Sound n) {f : List Int} (hf : FlowOk n f) {s : List Bool} (hp : Parts n s) (he : across n s ≤ netOut n f n.source) {v : Int} (h0 : 0 ≤ v) (h1 : v < n.nodes) (hv : nth (reach n f) v.toNat = true) : nth s v.toNat = true := by
  obtain ⟨S, e, hw, _⟩ := search_closed hn f
  rw [reach_nth hn f h0 h1, e] at hv
  obtain ⟨p, hp2⟩ := hw.way v (hw.seen v h0 h1 (of_decide_eq_true hv))
  have ht := tight hn hf hp he
  clear hv
  induction hp2 with
  | root => exact hp.1
  | @step v i p w1 w2 w3 w4 w5 w6 w7 w8 hway ih =>
    have hin := hway.inside hn
    have ihs := ih hin.1 hin.2
    have hed := hn.at w4
    have hti := ht i w4
    have hbr : (nth n.edges i).a = v ∨ (nth n.edges i).b = v := ((Way.step w1 w2 w3 w4 w5 w6 w7 w8 hway).edges _ (List.mem_cons_self ..)).2.2.1
    unfold carries crosses at hti
    cases hsv : nth s v.toNat with
    | true => rfl
    | false =>
      exfalso
      unfold otherR at ihs w6
      unfold restR at w6
      rcases hbr with hbr | hbr
      · rw [if_pos hbr] at ihs w6
        rw [if_neg (by omega), if_pos rfl] at w6
        rw [hbr, hsv, ihs] at hti
        simp at hti
        simp only at w6
        omega
      · have hna : ¬ (nth n.edges i).a = v := by omega
        rw [if_neg hna] at ihs w6
        rw [if_pos rfl] at w6
        rw [hbr, hsv, ihs] at hti
        simp at hti
        simp only at w6
        omega

/-! ### The search that stops at the sink -/
theorem inner_stop_same {n : Net4} {f : List Int} {u : Int} : ∀ (l : List Nat) (S : BS), (innerL n f true u l S).2 = false → innerL n f true u l S = innerL n f false u l S := by
  intro l
  induction l with
  | nil => intro S _; rfl
  | cons i l ih =>
    intro S h
    cases ht : tryE n f u i S with
    | none => rw [inner_skip ht] at h ⊢; rw [inner_skip ht]; exact ih S h
    | some S' =>
      by_cases hs : (restR (nth n.edges i) (nth f i) u).1 = n.sink
      · rw [inner_stop ht ⟨rfl, hs⟩] at h; cases h
      · rw [inner_visit ht (fun q => hs q.2)] at h ⊢
        rw [inner_visit ht (fun q => hs q.2)]
        exact ih S' h

theorem inner_stop_hit {n : Net4} (hn : Sound n) {f : List Int} {u : Int} : ∀ (l : List Nat), (∀ i ∈ l, i < n.edges.length) → ∀ (S : BS), Good n S → (innerL n f true u l S).2 = true → nth (innerL n f true u l S).1.by_ n.sink.toNat ≠ -2 := by
  intro l
  induction l with
  | nil => intro _ S _ h; cases h
  | cons i l ih =>
    intro hl S hg h
    have hl' : ∀ i ∈ l, i < n.edges.length := fun j hj => hl j (by simp [hj])
    have hi := hl i (by simp)
    cases ht : tryE n f u i S with
    | none => rw [inner_skip ht] at h ⊢; exact ih hl' S hg h
    | some S' =>
      obtain ⟨h1, h2, h3⟩ := try_cases ht
      have hg' : Good n S' := hg.tryE hn hi ht
      by_cases hs : (restR (nth n.edges i) (nth f i) u).1 = n.sink
      · rw [inner_stop ht ⟨rfl, hs⟩]
        have hlen := hg.len
        have hk := hn.sink
        rw [h3]
        simp only
        rw [hs, nth_set (by omega) (by omega), if_pos rfl]
        omega
      · rw [inner_visit ht (fun q => hs q.2)] at h ⊢
        exact ih hl' S' hg' h

theorem outer_stop {n : Net4} (hn : Sound n) {f : List Int} : ∀ (fuel : Nat) (S : BS) (k : Nat), Good n S → nth (outerL n f true fuel S k) n.sink.toNat = -2 → outerL n f true fuel S k = outerL n f false fuel S k := by
  intro fuel
  induction fuel with
  | zero => intro S k _ _; rfl
  | succ fuel ih =>
    intro S k hg h
    have hin : ∀ i ∈ List.range n.edges.length, i < n.edges.length := fun i hi => List.mem_range.1 hi
    unfold outerL at h ⊢
    split at h
    · rename_i hk
      rw [if_pos hk, if_pos hk]
      split at h
      · rename_i hb
        exact absurd h (inner_stop_hit hn _ hin S hg hb)
      · rename_i hb
        have hb' : (innerL n f true (nth S.queue k) (List.range n.edges.length) S).2 = false := by simpa using hb
        have e := inner_stop_same _ S hb'
        have hg2 := (inner_keep hn (f := f) (stop := true) (u := nth S.queue k) (List.range n.edges.length) hin S hg).2.2.2
        rw [if_neg hb, ← e, if_neg hb]
        exact ih _ _ hg2 h
    · rename_i hk
      rw [if_neg hk, if_neg hk]

theorem search_stop {n : Net4} (hn : Sound n) {f : List Int} (h : nth (searchR n f true) n.sink.toNat = -2) : searchR n f false = searchR n f true :=
  (outer_stop hn _ _ _ (Good.start hn) h).symm

/-! ### The maximum -/
theorem MaxTo.ends {n : Net4} (hn : Sound n) {f : List Int} {v : Int} {r : Int × List Int} (h : MaxTo n f v r) (hi : FlowOk n f ∧ v = netOut n f n.source) : FlowOk n r.2 ∧ r.1 = netOut n r.2 n.source ∧ nth (searchR n r.2 true) n.sink.toNat = -2 := by
  induction h with
  | done h => exact ⟨hi.1, hi.2, h⟩
  | @more f v p r hw hm ih =>
    obtain ⟨m1, m2⟩ := hw.min hn
    refine ih ⟨⟨hi.1.1.change hn hw (by omega) m2, fun u u0 u1 us uk => ?_⟩, ?_⟩
    · rw [hw.netOut hn u f hi.1.1.len, hi.1.2 u u0 u1 us uk, if_neg (fun e => us e.symm), if_neg (fun e => uk e.symm)]
      rfl
    · rw [hw.netOut hn n.source f hi.1.1.len, if_pos rfl, if_neg (fun e => hn.ne e.symm), hi.2]
      omega

theorem zeros_ok {n : Net4} (hn : Sound n) : FlowOk n (zeros n) ∧ (0 : Int) = netOut n (zeros n) n.source := by
  have h := MaxIn.start hn
  refine ⟨⟨h.flow, fun v _ _ _ _ => ?_⟩, h.val⟩
  unfold netOut zeros
  rw [sumTo_zero]
  intro i hi
  unfold leaves
  rw [nth_replicate hi]
  split <;> split <;> rfl

/-- What the maximum is. -/
structure MaxOk (n : Net4) (r : Int × List Int) : Prop where
  flow : FlowOk n r.2
  val : r.1 = netOut n r.2 n.source
  unreached : nth (searchR n r.2 false) n.sink.toNat = -2
  parts : Parts n (reach n r.2)
  cut : across n (reach n r.2) = r.1

theorem MaxTo.ok {n : Net4} (hn : Sound n) {r : Int × List Int} (h : MaxTo n (zeros n) 0 r) : MaxOk n r := by
  obtain ⟨h1, h2, h3⟩ := h.ends hn (zeros_ok hn)
  have h4 : nth (searchR n r.2 false) n.sink.toNat = -2 := by rw [search_stop hn h3]; exact h3
  obtain ⟨h5, h6⟩ := reach_across hn h1 h4
  exact ⟨h1, h2, h4, h5, by rw [h6, h2]⟩

end Go.Proofs.Ytjmklialkjncaaa.Eng

set_option linter.unusedVariables false
set_option linter.unusedSimpArgs false
namespace Go.Proofs.Ytjmklialkjncaaa.Eng

/-- A network with one edge exchanged. -/
def withE (n : Net4) (k : Nat) (e : E4) : Net4 := { n with edges := n.edges.set k e }

theorem withE_len (n : Net4) (k : Nat) (e : E4) : (withE n k e).edges.length = n.edges.length := by
  show (n.edges.set k e).length = _
  rw [List.length_set]

theorem withE_nth {n : Net4} {k : Nat} {e : E4} {i : Nat} (hk : k < n.edges.length) (hi : i < n.edges.length) : nth (withE n k e).edges i = if k = i then e else nth n.edges i := nth_set hk hi

theorem withE_sound {n : Net4} (hn : Sound n) {k : Nat} (hk : k < n.edges.length) {e : E4} (he : ¬ BadEdge n e) : Sound (withE n k e) := by
  refine ⟨hn.nodes, by rw [withE_len]; exact hn.len, hn.source, hn.sink, hn.ne, fun i hi => ?_⟩
  rw [withE_len] at hi
  rw [withE_nth hk hi]
  split
  · exact he
  · exact hn.edge i hi

theorem across_more {n : Net4} {k : Nat} (hk : k < n.edges.length) {d : Int} (hd : 0 ≤ d) (s : List Bool) :
    across n s ≤ across (withE n k ⟨(nth n.edges k).a, (nth n.edges k).b, (nth n.edges k).cap + d, (nth n.edges k).back⟩) s ∧ across (withE n k ⟨(nth n.edges k).a, (nth n.edges k).b, (nth n.edges k).cap + d, (nth n.edges k).back⟩) s ≤ across n s + d := by
  have hx : ∃ x, 0 ≤ x ∧ x ≤ d ∧ crosses (withE n k ⟨(nth n.edges k).a, (nth n.edges k).b, (nth n.edges k).cap + d, (nth n.edges k).back⟩) s k = crosses n s k + x := by
    unfold crosses
    rw [withE_nth hk hk, if_pos rfl]
    simp only
    split
    · exact ⟨d, hd, Int.le_refl _, rfl⟩
    · split
      · exact ⟨0, Int.le_refl _, hd, by omega⟩
      · exact ⟨0, Int.le_refl _, hd, by omega⟩
  obtain ⟨x, x0, x1, hx⟩ := hx
  have e : across (withE n k ⟨(nth n.edges k).a, (nth n.edges k).b, (nth n.edges k).cap + d, (nth n.edges k).back⟩) s = across n s + x := by
    unfold across acrossTo
    rw [withE_len]
    refine sumTo_one hk (fun i hi hne => ?_) hx
    have e := withE_nth (e := ⟨(nth n.edges k).a, (nth n.edges k).b, (nth n.edges k).cap + d, (nth n.edges k).back⟩) hk hi
    rw [if_neg (fun q => hne q.symm)] at e
    unfold crosses
    rw [e]
  omega

theorem across_turned {n : Net4} {k : Nat} (hk : k < n.edges.length) (s : List Bool) : across (withE n k ⟨(nth n.edges k).b, (nth n.edges k).a, (nth n.edges k).back, (nth n.edges k).cap⟩) s = across n s := by
  unfold across acrossTo
  rw [withE_len]
  refine sumTo_congr fun i hi => ?_
  unfold crosses
  rw [withE_nth hk hi]
  by_cases q : k = i
  · subst q
    rw [if_pos rfl]
    simp only
    cases nth s (nth n.edges k).a.toNat <;> cases nth s (nth n.edges k).b.toNat <;> simp
  · rw [if_neg q]

theorem netOf_edge (l : List Int) {i : Nat} (hi : i < (netOf l).edges.length) : nth (netOf l).edges i = mkEdge l (netOf l).nodes i := by
  have he : (netOf l).edges = (List.range (min 16 ((l.length - 3) / 2))).map (mkEdge l (netOf l).nodes) := rfl
  have hi' : i < (List.range (min 16 ((l.length - 3) / 2))).length := by rw [he, List.length_map] at hi; exact hi
  rw [he, nth_map hi', nth_get hi', List.getElem_range]

theorem flowMore_ok (O : Objs) (l : List Int) (at0 by_ : Int) (a : Option Addr) (c : Nat) (hl : Src O 1 (.slice a l.length c) l.length (l.map I)) (h64 : All64 l) (hlen : Short l) (hat : In64 at0) (hby : In64 by_) :
    Spec Try.prog false 4 #[.slice a l.length c, I at0, I by_] O fun v _ => v = .bool true := by
  have hnl := netOf_len l
  have hn := netOf_sound l
  have hnn := hn.nodes
  have h9 := around_range (n := by_) (m := 9) (by omega)
  refine Spec.enter (args := [_, _, _]) (m := 128) Try.func4 rfl rfl (by decide +kernel) fun h0 => ?_
  refine WX.seq ?_
  refine WX.region rfl ?_
  refine WXL.assign Met.none rfl ?_
  refine WXL.nil ?_
  refine Fin.then_normal ?_
  refine WX.seq ?_
  refine WX.region rfl ?_
  refine WXL.move Met.none rfl ?_
  refine WXL.cl (O1 := _) Met.none rfl (fnOk_of Try.func11 (by decide +kernel)) rfl (fun _ h => h) (network_ok _ l a c src_ h64 hlen) (fun v O' hp => ?_)
  obtain ⟨a1, c1, G1, rfl, hG1, rfl⟩ := hp
  refine WXL.cl (O1 := _) Met.none rfl (fnOk_of Try.func16 (by decide +kernel)) rfl (fun _ h => h) (own_ok _ (netOf l) a1 c1 src_ (by omega)) (fun v O' hp => ?_)
  obtain ⟨a3, c3, G3, rfl, hG3, rfl⟩ := hp
  refine WXL.alloc (c := [_, _, _, _]) Met.none zero36 rfl (fun b7 => ?_)
  refine WXL.st (vs := [_, _, _, _]) (c' := [_, _, _, _]) Met.none rfl rfl rfl sz36 ?_
  refine WXL.nil ?_
  refine Fin.then_normal ?_
  refine WX.seq ?_
  refine WX.seq ?_
  refine WX.region rfl ?_
  refine WXL.fieldAddr (off' := 3) Met.none rfl Try.underlying36 rfl sz34 rfl ?_
  first | refine WXL.ld Met.none rfl agg34 ?_ | refine WXL.ldS Met.none rfl agg34 ?_
  refine WXL.len Met.none rfl Try.underlying34 ?_
  refine WXL.bin Met.none rfl rfl rfl ?_
  refine WXL.nil ?_
  refine Fin.then_normal ?_
  refine WX.cond rfl (fun hc0 => ?_) (fun hc0 => ?_)
  · try simp only [cnd] at hc0
    refine WX.seq ?_
    refine WX.region rfl ?_
    refine WXL.cl (O1 := _) Met.none rfl (fnOk_of Try.func19 (by decide +kernel)) rfl (fun _ h => h) (lives_ok _) (fun v O' hp => ?_)
    obtain ⟨rfl, hO⟩ := hp
    subst O'
    refine WXL.assign Met.none rfl ?_
    refine WXL.nil ?_
    refine Fin.then_normal ?_
    refine WX.ret ?_
    refine Fin.then_ret ?_
    exact Fin.result (O' := []) (.inr rfl) rfl rfl (fun _ hs => Sat.nil hs.wf) rfl
  · try simp only [cnd] at hc0
    refine WX.skip ?_
    refine Fin.then_normal ?_
    refine WX.seq ?_
    have hka := around_range (n := at0) (m := ((netOf l).edges.length : Int)) (by omega)
    obtain ⟨k, hk⟩ : ∃ k : Nat, (k : Int) = around at0 (netOf l).edges.length := ⟨(around at0 (netOf l).edges.length).toNat, by omega⟩
    have hkl : k < (netOf l).edges.length := by omega
    have hed := mkEdge_ok (l := l) (nodes := (netOf l).nodes) (by omega) (by obtain ⟨_, _, _, _, _, _, q⟩ := tdiv_mod_range (l := l); exact q) k
    rw [← netOf_edge l hkl] at hed
    refine WX.region rfl ?_
    refine WXL.move Met.none rfl ?_
    refine WXL.fieldAddr (off' := 3) Met.none rfl Try.underlying36 rfl sz34 rfl ?_
    first | refine WXL.ld Met.none rfl agg34 ?_ | refine WXL.ldS Met.none rfl agg34 ?_
    refine WXL.len Met.none rfl Try.underlying34 ?_
    refine WXL.cl (O1 := _) Met.none rfl (fnOk_of Try.func13 (by decide +kernel)) rfl (fun _ h => h) (around_ok _ _ _ hat (by omega)) (fun v O' hp => ?_)
    obtain ⟨rfl, hO⟩ := hp
    subst O'
    rw [← hk]
    refine WXL.assign Met.none rfl ?_
    refine WXL.nil ?_
    refine Fin.then_normal ?_
    refine WX.seq ?_
    refine WX.region rfl ?_
    refine WXL.move Met.none rfl ?_
    refine WXL.cl (O1 := _) Met.none rfl (fnOk_of Try.func13 (by decide +kernel)) rfl (fun _ h => h) (around_ok _ _ _ hby (by omega)) (fun v O' hp => ?_)
    obtain ⟨rfl, hO⟩ := hp
    subst O'
    refine WXL.assign Met.none rfl ?_
    refine WXL.nil ?_
    refine Fin.then_normal ?_
    refine WX.seq ?_
    refine WX.region rfl ?_
    refine WXL.ldN (vs := [_, _, _, _]) Met.none rfl agg36 sz36 ?_
    refine WXL.alloc (c := [_, _, _, _]) Met.none zero36 rfl (fun b10 => ?_)
    refine WXL.st (vs := [_, _, _, _]) (c' := [_, _, _, _]) Met.none rfl rfl rfl sz36 ?_
    refine WXL.nil ?_
    refine Fin.then_normal ?_
    refine WX.seq ?_
    refine WX.region rfl ?_
    refine WXL.buildSlice (c := []) Met.none rfl elem34 sz44 zero44 (by decide) (by decide) rfl rfl rfl rfl (fun b38 => ?_)
    refine WXL.fieldAddr (off' := 3) Met.none rfl Try.underlying36 rfl sz34 rfl ?_
    first | refine WXL.ld Met.none rfl agg34 ?_ | refine WXL.ldS Met.none rfl agg34 ?_
    refine WXL.ap Met.none rfl rfl isrow34 elem34 sz44 by44 zero44 src_ (fun b41 => ?_) (hc := (show _ = flat encE (netOf l).edges from rfl))
    rw [Nat.zero_add (netOf l).edges.length]
    refine WXL.fieldAddr (off' := 3) Met.none rfl Try.underlying36 rfl sz34 rfl ?_
    refine WXL.st (vs := [_]) (c' := [_, _, _, _]) Met.none rfl rfl rfl sz34 ?_
    refine WXL.nil ?_
    refine Fin.then_normal ?_
    refine WX.seq ?_
    refine WX.draw rfl ?_
    refine WXL.fieldAddr (off' := 3) Met.none rfl Try.underlying36 rfl sz34 rfl ?_
    first | refine WXL.ld Met.none rfl agg34 ?_ | refine WXL.ldS Met.none rfl agg34 ?_
    refine WXL.move Met.none rfl ?_
    refine WXL.fieldAddr (off' := 3) Met.none rfl Try.underlying36 rfl sz34 rfl ?_
    first | refine WXL.ld Met.none rfl agg34 ?_ | refine WXL.ldS Met.none rfl agg34 ?_
    refine WXL.move Met.none rfl ?_
    first | refine WXL.ix Met.none rfl rfl elem34 sz44 ?_ | refine WXL.ixS Met.none rfl rfl elem34 sz44 ?_
    first | refine WXL.fieldAddr Met.none rfl Try.underlying44 rfl sz3 rfl ?_ | refine WXL.faS Met.none rfl Try.underlying44 rfl sz3 ?_
    first | refine WXL.ld Met.none rfl agg3 ?_ | refine WXL.ldS Met.none rfl agg3 ?_
    refine WXL.move Met.none rfl ?_
    refine WXL.bin Met.none rfl rfl bvA ?_
    first | refine WXL.ix Met.none rfl rfl elem34 sz44 ?_ | refine WXL.ixS Met.none rfl rfl elem34 sz44 ?_
    first | refine WXL.fieldAddr Met.none rfl Try.underlying44 rfl sz3 rfl ?_ | refine WXL.faS Met.none rfl Try.underlying44 rfl sz3 ?_
    refine WXL.st (vs := [_]) (j := 0) Met.none rfl rfl rfl sz3 ?_ (hj := rfl) (hl := (by rw [flat_encE_len]; show _ * 4 + 2 + 1 ≤ _; omega)) (hc := (splice_cap (netOf l).edges k _ hkl))
    refine WXL.nil ?_
    refine Fin.then_normal ?_
    refine WX.seq ?_
    refine WX.region rfl ?_
    refine WXL.ldN (vs := [_, _, _, _]) Met.none rfl agg36 sz36 ?_
    refine WXL.alloc (c := [_, _, _, _]) Met.none zero36 rfl (fun b11 => ?_)
    refine WXL.st (vs := [_, _, _, _]) (c' := [_, _, _, _]) Met.none rfl rfl rfl sz36 ?_
    refine WXL.nil ?_
    refine Fin.then_normal ?_
    refine WX.seq ?_
    refine WX.region rfl ?_
    refine WXL.buildSlice (c := []) Met.none rfl elem34 sz44 zero44 (by decide) (by decide) rfl rfl rfl rfl (fun b57 => ?_)
    refine WXL.fieldAddr (off' := 3) Met.none rfl Try.underlying36 rfl sz34 rfl ?_
    first | refine WXL.ld Met.none rfl agg34 ?_ | refine WXL.ldS Met.none rfl agg34 ?_
    refine WXL.ap Met.none rfl rfl isrow34 elem34 sz44 by44 zero44 src_ (fun b60 => ?_) (hc := (show _ = flat encE (netOf l).edges from rfl))
    rw [Nat.zero_add (netOf l).edges.length]
    refine WXL.fieldAddr (off' := 3) Met.none rfl Try.underlying36 rfl sz34 rfl ?_
    refine WXL.st (vs := [_]) (c' := [_, _, _, _]) Met.none rfl rfl rfl sz34 ?_
    refine WXL.nil ?_
    refine Fin.then_normal ?_
    refine WX.seq ?_
    refine WX.region rfl ?_
    refine WXL.fieldAddr (off' := 3) Met.none rfl Try.underlying36 rfl sz34 rfl ?_
    first | refine WXL.ld Met.none rfl agg34 ?_ | refine WXL.ldS Met.none rfl agg34 ?_
    refine WXL.move Met.none rfl ?_
    first | refine WXL.ix Met.none rfl rfl elem34 sz44 ?_ | refine WXL.ixS Met.none rfl rfl elem34 sz44 ?_
    first | refine WXL.ldN Met.none rfl agg44 sz44 ?_ | refine WXL.ldNS Met.none rfl agg44 sz44 ?_
    refine WXL.alloc (c := [_, _, _, _]) Met.none zero44 rfl (fun b12 => ?_)
    refine WXL.st (vs := [_, _, _, _]) (c' := [_, _, _, _]) Met.none rfl rfl rfl sz44 ?_
    refine WXL.nil ?_
    refine Fin.then_normal ?_
    refine WX.seq ?_
    refine WX.region rfl ?_
    refine WXL.fieldAddr (off' := 3) Met.none rfl Try.underlying36 rfl sz34 rfl ?_
    first | refine WXL.ld Met.none rfl agg34 ?_ | refine WXL.ldS Met.none rfl agg34 ?_
    refine WXL.move Met.none rfl ?_
    refine WXL.fieldAddr (off' := 1) Met.none rfl Try.underlying44 rfl sz3 rfl ?_
    first | refine WXL.ld Met.none rfl agg3 ?_ | refine WXL.ldS Met.none rfl agg3 ?_
    refine WXL.fieldAddr (off' := 0) Met.none rfl Try.underlying44 rfl sz3 rfl ?_
    first | refine WXL.ld Met.none rfl agg3 ?_ | refine WXL.ldS Met.none rfl agg3 ?_
    refine WXL.fieldAddr (off' := 3) Met.none rfl Try.underlying44 rfl sz3 rfl ?_
    first | refine WXL.ld Met.none rfl agg3 ?_ | refine WXL.ldS Met.none rfl agg3 ?_
    refine WXL.fieldAddr (off' := 2) Met.none rfl Try.underlying44 rfl sz3 rfl ?_
    first | refine WXL.ld Met.none rfl agg3 ?_ | refine WXL.ldS Met.none rfl agg3 ?_
    refine WXL.build (c := [_, _, _, _]) Met.none rfl zero44 places44 rfl ?_
    first | refine WXL.ix Met.none rfl rfl elem34 sz44 ?_ | refine WXL.ixS Met.none rfl rfl elem34 sz44 ?_
    refine WXL.st (j := 1) Met.none rfl rfl rfl sz44 ?_ (hj := rfl) (hl := (by rw [flat_encE_len]; show _ * 4 + 4 ≤ _; omega)) (hc := (splice_flat encE_len (netOf l).edges k ⟨(nth (netOf l).edges k).b, (nth (netOf l).edges k).a, (nth (netOf l).edges k).back, (nth (netOf l).edges k).cap⟩ hkl))
    refine WXL.nil ?_
    refine Fin.then_normal ?_
    refine WX.seq ?_
    have hn2 := withE_sound hn hkl (e := ⟨(nth (netOf l).edges k).a, (nth (netOf l).edges k).b, (nth (netOf l).edges k).cap + around by_ 9, (nth (netOf l).edges k).back⟩) (by unfold BadEdge; simp only; omega)
    have hn3 := withE_sound hn hkl (e := ⟨(nth (netOf l).edges k).b, (nth (netOf l).edges k).a, (nth (netOf l).edges k).back, (nth (netOf l).edges k).cap⟩) (by unfold BadEdge; simp only; omega)
    have hl2 := withE_len (netOf l) k ⟨(nth (netOf l).edges k).a, (nth (netOf l).edges k).b, (nth (netOf l).edges k).cap + around by_ 9, (nth (netOf l).edges k).back⟩
    have hl3 := withE_len (netOf l) k ⟨(nth (netOf l).edges k).b, (nth (netOf l).edges k).a, (nth (netOf l).edges k).back, (nth (netOf l).edges k).cap⟩
    have hm := across_more hkl (n := netOf l) (d := around by_ 9) (by omega)
    have ht := across_turned hkl (n := netOf l)
    refine WX.region rfl ?_
    refine WXL.ldN (vs := [_, _, _, _]) Met.none rfl agg36 sz36 ?_
    refine WXL.cl (O1 := _) Met.none rfl (fnOk_of Try.func15 (by decide +kernel)) rfl (fun _ h => h) (max_ok _ (netOf l) a3 c3 src_ (by omega)) (fun v O' hp => ?_)
    obtain ⟨e1, hw1, hm1, _⟩ := hp
    have he1 := hn.wrong hw1
    subst he1
    obtain ⟨r1, a4, c4, G4, hr1, _, rfl, _, rfl⟩ := hm1 rfl
    have ok1 := hr1.ok hn
    refine WXL.of (fun s hs => St.swap (G := G4) [_, _, _, _, _, _] hs) ?_
    refine WXL.move Met.none rfl ?_
    refine WXL.extract Met.none rfl rfl ?_
    refine WXL.extract Met.none rfl rfl ?_
    refine WXL.extract Met.none rfl rfl ?_
    refine WXL.assign Met.none rfl ?_
    refine WXL.assign Met.none rfl ?_
    refine WXL.assign Met.none rfl ?_
    refine WXL.nil ?_
    refine Fin.then_normal ?_
    refine WX.seq ?_
    refine WX.region rfl ?_
    refine WXL.ldN (vs := [_, _, _, _]) Met.none rfl agg36 sz36 ?_
    rw [← hl2]
    refine WXL.cl (O1 := _) Met.none rfl (fnOk_of Try.func15 (by decide +kernel)) rfl (fun _ h => h) (max_ok _ (withE (netOf l) k ⟨(nth (netOf l).edges k).a, (nth (netOf l).edges k).b, (nth (netOf l).edges k).cap + around by_ 9, (nth (netOf l).edges k).back⟩) (some ⟨b41, 0, none⟩) _ (Src.whole (cs := flat encE (withE (netOf l) k ⟨(nth (netOf l).edges k).a, (nth (netOf l).edges k).b, (nth (netOf l).edges k).cap + around by_ 9, (nth (netOf l).edges k).back⟩).edges) at_ (by rw [flat_encE_len])) (by omega)) (fun v O' hp => ?_)
    obtain ⟨e2, hw2, hm2, _⟩ := hp
    have he2 := hn2.wrong hw2
    subst he2
    obtain ⟨r2, a5, c5, G5, hr2, _, rfl, _, rfl⟩ := hm2 rfl
    have ok2 := hr2.ok hn2
    refine WXL.of (fun s hs => St.swap (G := G5) [_, _, _, _, _, _] hs) ?_
    refine WXL.move Met.none rfl ?_
    refine WXL.extract Met.none rfl rfl ?_
    refine WXL.extract Met.none rfl rfl ?_
    refine WXL.extract Met.none rfl rfl ?_
    refine WXL.assign Met.none rfl ?_
    refine WXL.assign Met.none rfl ?_
    refine WXL.assign Met.none rfl ?_
    refine WXL.nil ?_
    refine Fin.then_normal ?_
    refine WX.seq ?_
    refine WX.region rfl ?_
    refine WXL.ldN (vs := [_, _, _, _]) Met.none rfl agg36 sz36 ?_
    rw [hl2, ← hl3]
    refine WXL.cl (O1 := _) Met.none rfl (fnOk_of Try.func15 (by decide +kernel)) rfl (fun _ h => h) (max_ok _ (withE (netOf l) k ⟨(nth (netOf l).edges k).b, (nth (netOf l).edges k).a, (nth (netOf l).edges k).back, (nth (netOf l).edges k).cap⟩) (some ⟨b60, 0, none⟩) _ (Src.whole (cs := flat encE (withE (netOf l) k ⟨(nth (netOf l).edges k).b, (nth (netOf l).edges k).a, (nth (netOf l).edges k).back, (nth (netOf l).edges k).cap⟩).edges) at_ (by rw [flat_encE_len])) (by omega)) (fun v O' hp => ?_)
    obtain ⟨e3, hw3, hm3, _⟩ := hp
    have he3 := hn3.wrong hw3
    subst he3
    obtain ⟨r3, a6, c6, G6, hr3, _, rfl, _, rfl⟩ := hm3 rfl
    have ok3 := hr3.ok hn3
    have k1 : r1.1 ≤ r2.1 := by
      have q1 := weak hn ok1.flow (s := reach (withE (netOf l) k ⟨(nth (netOf l).edges k).a, (nth (netOf l).edges k).b, (nth (netOf l).edges k).cap + around by_ 9, (nth (netOf l).edges k).back⟩) r2.2) ok2.parts
      have q2 := (hm (reach (withE (netOf l) k ⟨(nth (netOf l).edges k).a, (nth (netOf l).edges k).b, (nth (netOf l).edges k).cap + around by_ 9, (nth (netOf l).edges k).back⟩) r2.2)).1
      rw [ok2.cut] at q2
      rw [← ok1.val] at q1
      omega
    have k2 : r2.1 ≤ r1.1 + around by_ 9 := by
      have q1 := weak hn2 ok2.flow (s := reach (netOf l) r1.2) ok1.parts
      have q2 := (hm (reach (netOf l) r1.2)).2
      rw [ok1.cut] at q2
      have q3 := ok2.val
      have q4 : (withE (netOf l) k ⟨(nth (netOf l).edges k).a, (nth (netOf l).edges k).b, (nth (netOf l).edges k).cap + around by_ 9, (nth (netOf l).edges k).back⟩).source = (netOf l).source := rfl
      omega
    have k3 : r3.1 = r1.1 := by
      have q1 := weak hn3 ok3.flow (s := reach (netOf l) r1.2) ok1.parts
      rw [ht, ok1.cut] at q1
      have q2 := weak hn ok1.flow (s := reach (withE (netOf l) k ⟨(nth (netOf l).edges k).b, (nth (netOf l).edges k).a, (nth (netOf l).edges k).back, (nth (netOf l).edges k).cap⟩) r3.2) ok3.parts
      rw [← ht, ok3.cut] at q2
      have q3 := ok3.val
      have q4 := ok1.val
      omega
    have k4 : r1.1 ≤ 9007199254740992 := by
      have := (hm1 rfl)
      obtain ⟨rr, _, _, _, hrr, hinn, _⟩ := this
      have := hr1.uniq hn hrr
      rw [this]
      exact hinn.bound hn
    have k5 : 0 ≤ r1.1 := by
      obtain ⟨rr, _, _, _, hrr, hinn, _⟩ := hm1 rfl
      have := hr1.uniq hn hrr
      rw [this]
      exact hinn.pos
    refine WXL.move Met.none rfl ?_
    refine WXL.extract Met.none rfl rfl ?_
    refine WXL.extract Met.none rfl rfl ?_
    refine WXL.extract Met.none rfl rfl ?_
    refine WXL.assign Met.none rfl ?_
    refine WXL.assign Met.none rfl ?_
    refine WXL.assign Met.none rfl ?_
    refine WXL.nil ?_
    refine Fin.then_normal ?_
    refine WX.seq ?_
    refine WX.region rfl ?_
    refine WXL.move Met.none rfl ?_
    refine WXL.bin Met.none rfl rfl rfl ?_
    refine WXL.move Met.none rfl ?_
    refine WXL.split (d := 100) rfl (fun hg100 => ?_) (fun hg100 => ?_)
    · try simp only [cnd] at hg100
      refine WXL.move (Met.some rfl rfl rfl) rfl ?_
      refine WXL.bin (Met.some rfl rfl rfl) rfl rfl rfl ?_
      refine WXL.pick_t Met.none rfl rfl ?_
      refine WXL.move Met.none rfl ?_
      refine WXL.split (d := 104) rfl (fun hg104 => ?_) (fun hg104 => ?_)
      · try simp only [cnd] at hg104
        refine WXL.move (Met.some rfl rfl rfl) rfl ?_
        refine WXL.bin (Met.some rfl rfl rfl) rfl rfl rfl ?_
        refine WXL.pick_t Met.none rfl rfl ?_
        refine WXL.move Met.none rfl ?_
        refine WXL.split (d := 108) rfl (fun hg108 => ?_) (fun hg108 => ?_)
        · try simp only [cnd] at hg108
          refine WXL.move (Met.some rfl rfl rfl) rfl ?_
          refine WXL.move (Met.some rfl rfl rfl) rfl ?_
          refine WXL.bin (Met.some rfl rfl rfl) rfl rfl rfl ?_
          refine WXL.pick_t Met.none rfl rfl ?_
          refine WXL.move Met.none rfl ?_
          refine WXL.split (d := 113) rfl (fun hg113 => ?_) (fun hg113 => ?_)
          · try simp only [cnd] at hg113
            refine WXL.move (Met.some rfl rfl rfl) rfl ?_
            refine WXL.move (Met.some rfl rfl rfl) rfl ?_
            refine WXL.move (Met.some rfl rfl rfl) rfl ?_
            refine WXL.bin (Met.some rfl rfl rfl) rfl rfl bvA ?_
            refine WXL.bin (Met.some rfl rfl rfl) rfl rfl rfl ?_
            refine WXL.pick_t Met.none rfl rfl ?_
            refine WXL.move Met.none rfl ?_
            refine WXL.split (d := 120) rfl (fun hg120 => ?_) (fun hg120 => ?_)
            · try simp only [cnd] at hg120
              refine WXL.move (Met.some rfl rfl rfl) rfl ?_
              refine WXL.move (Met.some rfl rfl rfl) rfl ?_
              refine WXL.bin (Met.some rfl rfl rfl) rfl rfl rfl ?_
              refine WXL.pick_t Met.none rfl rfl ?_
              refine WXL.move Met.none rfl ?_
              refine WXL.split (d := 125) rfl (fun hg125 => ?_) (fun hg125 => ?_)
              · try simp only [cnd] at hg125
                refine WXL.cl (O1 := _) (Met.some rfl rfl rfl) rfl (fnOk_of Try.func19 (by decide +kernel)) rfl (fun _ h => h) (lives_ok _) (fun v O' hp => ?_)
                obtain ⟨rfl, hO⟩ := hp
                subst O'
                refine WXL.pick_t Met.none rfl rfl ?_
                refine WXL.assign Met.none rfl ?_
                refine WXL.nil ?_
                refine Fin.then_normal ?_
                refine WX.ret ?_
                exact Fin.result (O' := []) (.inr rfl) rfl rfl (fun _ hs => Sat.nil hs.wf) rfl
              · try simp only [cnd] at hg125
                exact absurd k3 hg125 --end
            · try simp only [cnd] at hg120
              exact absurd k2 (by omega) --end
          · try simp only [cnd] at hg113
            exact absurd k1 (by omega) --end
        · try simp only [cnd] at hg108
          exact absurd trivial hg108 --end
      · try simp only [cnd] at hg104
        exact absurd trivial hg104 --end
    · try simp only [cnd] at hg100
      exact absurd trivial hg100 --end

end Go.Proofs.Ytjmklialkjncaaa.Eng

set_option linter.unusedVariables false
set_option linter.unusedSimpArgs false
namespace Go.Proofs.Ytjmklialkjncaaa.Eng

theorem ChkR.ok {n : Net4} (hn : Sound n) {f : List Int} {s : List Bool} (hs : (s.length : Int) = n.nodes) {e : Int} (h : ChkR n f s e) : e = 0 ↔ FlowOk n f ∧ Parts n s ∧ across n s = netOut n f n.source := by
  obtain ⟨x, ev, h1, h2, h3, h4⟩ := h
  constructor
  · intro he
    have hev : ev = 0 := by
      by_cases q : ev = 0
      · exact q
      · have := h2 q; omega
    subst hev
    obtain ⟨_, hf, hx⟩ := h1.ok
    have h5 := h4 rfl hs
    by_cases hp : nth s n.source.toNat = true ∧ nth s n.sink.toNat = false ∧ across n s = x
    · exact ⟨hf, ⟨hp.1, hp.2.1⟩, by rw [hp.2.2, hx]⟩
    · have := h5.2 hp; omega
  · rintro ⟨hf, hp, ha⟩
    obtain ⟨k, w1, w2, w3⟩ := h1
    have hk := hn.wrong w1
    rcases w3 hk with ⟨_, q2, q3⟩ | ⟨q1, _⟩
    · exact (h4 q3 hs).1 ⟨hp.1, hp.2, by rw [ha, q2]⟩
    · exact absurd hf q1

theorem ValR.iff {n : Net4} (hn : Sound n) {f : List Int} {x e : Int} (h : ValR n f x e) : (e = 0 → FlowOk n f ∧ x = netOut n f n.source) ∧ (FlowOk n f → e = 0 ∧ x = netOut n f n.source) := by
  refine ⟨fun he => ?_, fun hf => ?_⟩
  · subst he
    obtain ⟨_, h1, h2⟩ := h.ok
    exact ⟨h1, h2⟩
  · obtain ⟨k, w1, w2, w3⟩ := h
    rcases w3 (hn.wrong w1) with ⟨_, q2, q3⟩ | ⟨q1, _⟩
    · exact ⟨q3, q2⟩
    · exact absurd hf q1

theorem MaxOk.cutOf {n : Net4} (hn : Sound n) {r : Int × List Int} (h : MaxOk n r) {s : List Bool} {e : Int} (hc : CutR n r.2 s e) : s = reach n r.2 ∧ e = 0 := by
  obtain ⟨k, h1, _, _, _, h5⟩ := hc
  exact h5 (hn.wrong h1) h.flow h.unreached

theorem flowProofs_ok (O : Objs) (l m : List Int) (set : Int) (a am : Option Addr) (c cm : Nat) (hl : Src O 1 (.slice a l.length c) l.length (l.map I)) (h64 : All64 l) (hlen : Short l) (hm : Src O 1 (.slice am m.length cm) m.length (m.map I)) (m64 : All64 m) (mlen : Short m)
    (hset : In64 set) : Spec Try.prog false 7 #[.slice a l.length c, .slice am m.length cm, I set] O fun v _ => v = .bool true := by
  have hnl := netOf_len l
  have hn := netOf_sound l
  have hnn := hn.nodes
  have hlen2 := hn.len
  refine Spec.enter (args := [_, _, _]) (m := 125) Try.func7 rfl rfl (by decide +kernel) fun h0 => ?_
  refine WX.seq ?_
  refine WX.region rfl ?_
  refine WXL.assign Met.none rfl ?_
  refine WXL.nil ?_
  refine Fin.then_normal ?_
  refine WX.seq ?_
  refine WX.region rfl ?_
  refine WXL.move Met.none rfl ?_
  refine WXL.cl (O1 := _) Met.none rfl (fnOk_of Try.func11 (by decide +kernel)) rfl (fun _ h => h) (network_ok _ l a c src_ h64 hlen) (fun v O' hp => ?_)
  obtain ⟨a1, c1, G1, rfl, hG1, rfl⟩ := hp
  refine WXL.alloc (c := [_, _, _, _]) Met.none zero25 rfl (fun b7 => ?_)
  refine WXL.st (vs := [_, _, _, _]) (c' := [_, _, _, _]) Met.none rfl rfl rfl sz25 ?_
  refine WXL.nil ?_
  refine Fin.then_normal ?_
  refine WX.seq ?_
  refine WX.region rfl ?_
  refine WXL.ldN (vs := [_, _, _, _]) Met.none rfl agg25 sz25 ?_
  refine WXL.cl (O1 := _) Met.none rfl (fnOk_of Try.func16 (by decide +kernel)) rfl (fun _ h => h) (own_ok _ (netOf l) a1 c1 src_ (by omega)) (fun v O' hp => ?_)
  obtain ⟨a3, c3, G3, rfl, hG3, rfl⟩ := hp
  refine WXL.of (fun s hs => St.swap (G := G3) [_] hs) ?_
  refine WXL.alloc (c := [_, _, _, _]) Met.none zero36 rfl (fun b8 => ?_)
  refine WXL.st (vs := [_, _, _, _]) (c' := [_, _, _, _]) Met.none rfl rfl rfl sz36 ?_
  refine WXL.nil ?_
  refine Fin.then_normal ?_
  refine WX.seq ?_
  refine WX.region rfl ?_
  refine WXL.ldN (vs := [_, _, _, _]) Met.none rfl agg25 sz25 ?_
  refine WXL.move Met.none rfl ?_
  refine WXL.cl (O1 := _) Met.none rfl (fnOk_of Try.func20 (by decide +kernel)) rfl (fun _ h => h) (flows_ok _ (netOf l) m a1 am c1 cm hn src_ src_ m64 mlen) (fun v O' hp => ?_)
  obtain ⟨fl, aF, cF, mF, GF, rfl, rfl, hfl, hGF, rfl⟩ := hp
  refine WXL.of (fun s hs => St.swap (G := GF) [_, _] hs) ?_
  refine WXL.assign Met.none rfl ?_
  refine WXL.nil ?_
  refine Fin.then_normal ?_
  refine WX.seq ?_
  refine WX.region rfl ?_
  refine WXL.ldN (vs := [_, _, _, _]) Met.none rfl agg36 sz36 ?_
  refine WXL.cl (O1 := _) Met.none rfl (fnOk_of Try.func15 (by decide +kernel)) rfl (fun _ h => h) (max_ok _ (netOf l) a3 c3 src_ (by omega)) (fun v O' hp => ?_)
  obtain ⟨e1, hw1, hm1, _⟩ := hp
  have he1 := hn.wrong hw1
  subst he1
  obtain ⟨r, aB, cB, GB, hr, hin, rfl, hGB, rfl⟩ := hm1 rfl
  have ok1 := hr.ok hn
  have hrl := hin.flow.len
  refine WXL.of (fun s hs => St.swap (G := GB) [_, _] hs) ?_
  refine WXL.move Met.none rfl ?_
  refine WXL.extract Met.none rfl rfl ?_
  refine WXL.extract Met.none rfl rfl ?_
  refine WXL.extract Met.none rfl rfl ?_
  refine WXL.assign Met.none rfl ?_
  refine WXL.assign Met.none rfl ?_
  refine WXL.assign Met.none rfl ?_
  refine WXL.nil ?_
  refine Fin.then_normal ?_
  refine WX.seq ?_
  refine WX.region rfl ?_
  refine WXL.ldN (vs := [_, _, _, _]) Met.none rfl agg36 sz36 ?_
  refine WXL.move Met.none rfl ?_
  refine WXL.cl (O1 := _) Met.none rfl (fnOk_of Try.func22 (by decide +kernel)) rfl (fun _ h => h) (cut_ok _ (netOf l) r.2 a3 aB c3 cB (by omega) src_ src_) (fun v O' hp => ?_)
  obtain ⟨s0, e0, aS, cS, GS, rfl, hcut, hGS, rfl⟩ := hp
  obtain ⟨hs0, he0⟩ := ok1.cutOf hn hcut
  subst he0
  have hs0l : s0.length = (netOf l).nodes.toNat := by rw [hs0, reach_len hn]
  refine WXL.of (fun s hs => St.swap (G := GS) [_, _] hs) ?_
  refine WXL.move Met.none rfl ?_
  refine WXL.extract Met.none rfl rfl ?_
  refine WXL.extract Met.none rfl rfl ?_
  refine WXL.assign Met.none rfl ?_
  refine WXL.assign Met.none rfl ?_
  refine WXL.nil ?_
  refine Fin.then_normal ?_
  refine WX.seq ?_
  refine WX.seq ?_
  refine WX.region rfl ?_
  refine WXL.move Met.none rfl ?_
  refine WXL.bin Met.none rfl rfl rfl ?_
  refine WXL.move Met.none rfl ?_
  refine WXL.split (d := 45) rfl (fun hg45 => ?_) (fun hg45 => ?_)
  · try simp only [cnd] at hg45
    exact absurd hg45 (by simp) --end
  · try simp only [cnd] at hg45
    refine WXL.move (Met.some rfl rfl rfl) rfl ?_
    refine WXL.bin (Met.some rfl rfl rfl) rfl rfl rfl ?_
    refine WXL.pick_f Met.none rfl rfl ?_
    refine WXL.nil ?_
    refine Fin.then_normal ?_
    refine WX.cond rfl (fun hc0 => ?_) (fun hc0 => ?_)
    · try simp only [cnd] at hc0
      exact absurd hc0 (by simp) --end
    · try simp only [cnd] at hc0
      refine WX.skip ?_
      refine Fin.then_normal ?_
      refine WX.seq ?_
      refine WX.region rfl ?_
      refine WXL.assign Met.none rfl ?_
      refine WXL.nil ?_
      refine Fin.then_normal ?_
      refine WX.seq ?_
      refine WX.seq ?_
      refine WX.region rfl ?_
      refine WXL.assign Met.none rfl ?_
      refine WXL.nil ?_
      refine Fin.then_normal ?_
      refine WX.block ?_
      refine WX.loop (fun q : List Bool × Option Addr × Nat × Objs => [(2, I set), (8, Ptr b8 0), (9, .slice aF fl.length cF), (10, I r.1), (13, .slice aS s0.length cS), (15, .slice q.2.1 q.1.length q.2.2.1), (16, I (q.1.length : Int))]) (fun q => (b8, ⟨0, false, [I (netOf l).nodes, I (netOf l).source, I (netOf l).sink, .slice a3 (netOf l).edges.length c3]⟩) :: (q.2.2.2 ++ (GS ++ (GB ++ (GF ++ (G3 ++ (G1 ++ O))))))) (fun q => q.1.length ≤ (netOf l).nodes.toNat ∧ Grow 1 q.2.1 q.1.length q.2.2.1 (q.1.map Bl) q.2.2.2) (fun q => (netOf l).nodes.toNat - q.1.length) ([], none, 0, []) ⟨by simp, .nil⟩ (fun s hs => hs.tl [0] 2) (fun q hq => ?_)
      obtain ⟨od, ao, co, Go⟩ := q
      obtain ⟨hol, hGo⟩ := hq
      simp only at hol hGo
      dsimp only
      refine WX.seq ?_
      refine WX.seq ?_
      refine WX.region rfl ?_
      refine WXL.move Met.none rfl ?_
      refine WXL.fieldAddr (off' := 0) Met.none rfl Try.underlying36 rfl sz3 rfl ?_
      first | refine WXL.ld Met.none rfl agg3 ?_ | refine WXL.ldS Met.none rfl agg3 ?_
      refine WXL.bin Met.none rfl rfl rfl ?_
      refine WXL.nil ?_
      refine Fin.then_normal ?_
      refine WX.cond rfl (fun hc1 => ?_) (fun hc1 => ?_)
      · try simp only [cnd] at hc1
        refine WX.skip ?_
        refine Fin.then_normal ?_
        refine WX.seq ?_
        refine WX.block ?_
        refine WX.region rfl ?_
        refine WXL.move Met.none rfl ?_
        refine WXL.move Met.none rfl ?_
        refine WXL.move Met.none rfl ?_
        refine WXL.shr Met.none rfl rfl (by omega) ?_
        refine WXL.bin Met.none rfl rfl rfl ?_
        refine WXL.bin Met.none rfl rfl rfl ?_
        refine WXL.buildSlice (c := [_]) Met.none rfl elem46 sz4 zero4 (by decide) (by decide) rfl rfl rfl rfl (fun b61 => ?_)
        refine WXL.apG [_, _] Met.none rfl rfl isrow46 elem46 sz4 by4 zero4 (Src.lit (cs := [_])) (fun a62 c62 G62 hG62 => ?_)
        refine WXL.assign Met.none rfl ?_
        refine WXL.nil ?_
        refine Fin.block_normal ?_
        refine Fin.then_normal ?_
        refine WX.region rfl ?_
        refine WXL.move Met.none rfl ?_
        refine WXL.bin Met.none rfl rfl bvA ?_
        refine WXL.assign Met.none rfl ?_
        refine WXL.nil ?_
        have hG' : ∃ bb : Bool, Grow 1 a62 (od.length + 1) c62 ((od ++ [bb]).map Bl) G62 := ⟨_, by rw [List.map_append]; exact hG62⟩
        obtain ⟨bb, hG'⟩ := hG'
        refine Fin.loop_next (od ++ [bb], a62, c62, G62) ⟨?_, ?_⟩ ?_ ?_
        · simp only [List.length_append, List.length_singleton]; omega
        · simp only [List.length_append, List.length_singleton]; exact hG'
        · simp only [List.length_append, List.length_singleton]; omega
        · simp only [List.length_append, List.length_singleton]; exact (fun s hs => hs.tl [1] 2)
      · try simp only [cnd] at hc1
        refine WX.exit ?_
        refine Fin.then_exit ?_
        refine Fin.loop_exit ?_
        refine Fin.block_hit rfl ?_
        refine Fin.then_normal ?_
        refine WX.seq ?_
        have hol2 : od.length = (netOf l).nodes.toNat := by omega
        refine WX.region rfl ?_
        refine WXL.move Met.none rfl ?_
        refine WXL.move Met.none rfl ?_
        refine WXL.buildSlice (c := [_, _]) Met.none rfl elem49 sz46 zero46 (by decide) (by decide) rfl rfl rfl rfl (fun b65 => ?_)
        refine WXL.assign Met.none rfl ?_
        refine WXL.nil ?_
        refine Fin.then_normal ?_
        refine WX.seq ?_
        refine WX.seq ?_
        refine WX.region rfl ?_
        refine WXL.assign Met.none rfl ?_
        refine WXL.nil ?_
        refine Fin.then_normal ?_
        refine WX.block ?_
        obtain ⟨Sl, hSl⟩ : ∃ Sl : List (RowP Bool), Sl = [⟨s0, aS, s0.length, cS⟩, ⟨od, ao, od.length, co⟩] := ⟨_, rfl⟩
        have hSll : Sl.length = 2 := by rw [hSl]; rfl
        obtain ⟨T, hT⟩ : ∃ T : Objs, T = (Go ++ (GS ++ (GB ++ (GF ++ (G3 ++ (G1 ++ O)))))) := ⟨_, rfl⟩
        have hE : Edges T (netOf l) a3 c3 := by
          rw [hT]
          exact Src.app (Src.app (Src.app (Src.app hG3.src)))
        have hF : Src T 1 (.slice aF fl.length cF) fl.length (fl.map I) := by
          rw [hT]
          exact Src.app (Src.app (Src.app hGF.src))
        have hS : ∀ k, k < 2 → Src T 1 (.slice (nth Sl k).a (nth Sl k).n (nth Sl k).c) (nth Sl k).n ((nth Sl k).l.map Bl) ∧ (nth Sl k).n = (nth Sl k).l.length ∧ ((nth Sl k).l.length : Int) = (netOf l).nodes := by
          intro k hk
          rw [hT, hSl]
          have : k = 0 ∨ k = 1 := by omega
          rcases this with rfl | rfl
          · exact ⟨Src.app hGS.src, rfl, by show (s0.length : Int) = _; omega⟩
          · exact ⟨hGo.src, rfl, by show (od.length : Int) = _; omega⟩
        refine WX.loop (fun k : Nat => [(8, Ptr b8 0), (9, .slice aF fl.length cF), (10, I r.1), (17, Row b65 0 2 2), (18, I (k : Int))]) (fun _ => (b65, ⟨1, false, Sl.map encR⟩) :: (b8, ⟨0, false, [I (netOf l).nodes, I (netOf l).source, I (netOf l).sink, .slice a3 (netOf l).edges.length c3]⟩) :: T) (fun k => k ≤ 2) (fun k => 2 - k) 0 (by omega) ?_ (fun k hk => ?_)
        · rw [hSl, hT]
          exact (fun s hs => hs.tl [0, 1] 2)
        refine WX.seq ?_
        refine WX.seq ?_
        refine WX.region rfl ?_
        refine WXL.move Met.none rfl ?_
        refine WXL.bin Met.none rfl rfl rfl ?_
        refine WXL.nil ?_
        refine Fin.then_normal ?_
        refine WX.cond rfl (fun hc2 => ?_) (fun hc2 => ?_)
        · try simp only [cnd] at hc2
          refine WX.skip ?_
          refine Fin.then_normal ?_
          refine WX.seq ?_
          refine WX.block ?_
          refine WX.seq ?_
          obtain ⟨hSs, hSn, hSL⟩ := hS k (by omega)
          have hSk : k < Sl.length := by omega
          rw [hSn] at hSs
          refine WX.draw rfl ?_
          refine WXL.ldN (vs := [_, _, _, _]) Met.none rfl agg36 sz36 ?_
          refine WXL.move Met.none rfl ?_
          refine WXL.move Met.none rfl ?_
          refine WXL.move Met.none rfl ?_
          first | refine WXL.ix Met.none rfl rfl elem49 sz46 ?_ | refine WXL.ixS Met.none rfl rfl elem49 sz46 ?_
          first | refine WXL.ld Met.none rfl agg46 ?_ (hv := (cell_map encR Sl k hSk)) | refine WXL.ldS Met.none rfl agg46 ?_ (hv := (cell_map encR Sl k hSk))
          unfold encR; rw [hSn]
          refine WXL.cl (O1 := _) Met.none rfl (fnOk_of Try.func26 (by decide +kernel)) rfl (fun _ h => h) (check_q _ (netOf l) fl (nth Sl k).l a3 aF (nth Sl k).a c3 cF (nth Sl k).c (by omega) src_ src_ src_) (fun v O' hp => ?_)
          obtain ⟨⟨y, rfl, hy⟩, rfl⟩ := hp
          have hyi := hy.ok hn hSL
          refine WXL.bin Met.none rfl rfl rfl ?_
          refine WXL.assign Met.none rfl ?_
          refine WXL.nil ?_
          refine Fin.then_normal ?_
          refine WX.seq ?_
          refine WX.region rfl ?_
          refine WXL.ldN (vs := [_, _, _, _]) Met.none rfl agg36 sz36 ?_
          refine WXL.move Met.none rfl ?_
          refine WXL.cl (O1 := _) Met.none rfl (fnOk_of Try.func23 (by decide +kernel)) rfl (fun _ h => h) (value_ok _ (netOf l) fl a3 aF c3 cF (by omega) src_ src_) (fun v O' hp => ?_)
          obtain ⟨x2, ev2, rfl, hv2, rfl⟩ := hp
          have hvi := hv2.iff hn
          refine WXL.move Met.none rfl ?_
          refine WXL.extract Met.none rfl rfl ?_
          refine WXL.extract Met.none rfl rfl ?_
          refine WXL.assign Met.none rfl ?_
          refine WXL.assign Met.none rfl ?_
          refine WXL.nil ?_
          refine Fin.then_normal ?_
          refine WX.seq ?_
          refine WX.draw rfl ?_
          refine WXL.ldN (vs := [_, _, _, _]) Met.none rfl agg36 sz36 ?_
          refine WXL.move Met.none rfl ?_
          refine WXL.move Met.none rfl ?_
          first | refine WXL.ix Met.none rfl rfl elem49 sz46 ?_ | refine WXL.ixS Met.none rfl rfl elem49 sz46 ?_
          first | refine WXL.ld Met.none rfl agg46 ?_ (hv := (cell_map encR Sl k hSk)) | refine WXL.ldS Met.none rfl agg46 ?_ (hv := (cell_map encR Sl k hSk))
          unfold encR; rw [hSn]
          refine WXL.cl (O1 := _) Met.none rfl (fnOk_of Try.func28 (by decide +kernel)) rfl (fun _ h => h) (across_q _ (netOf l) (nth Sl k).l a3 (nth Sl k).a c3 (nth Sl k).c (by omega) src_ src_) (fun v O' hp => ?_)
          obtain ⟨⟨x3, e3, rfl, hx3⟩, rfl⟩ := hp
          obtain ⟨k3, w1, w2, w3, w4⟩ := hx3
          have hk3 := hn.wrong w1
          obtain ⟨rfl, rfl⟩ := w4 hk3 hSL
          have hkey : y = 0 → ev2 = 0 ∧ x2 = r.1 ∧ across (netOf l) (nth Sl k).l = r.1 := by
            intro q
            obtain ⟨q1, q2, q3⟩ := hyi.1 q
            obtain ⟨q4, q5⟩ := hvi.2 q1
            have u1 := weak hn q1 ok1.parts
            have u2 := weak hn ok1.flow q2
            have u3 := ok1.val
            have u4 := ok1.cut
            refine ⟨q4, by omega, by omega⟩
          refine WXL.move Met.none rfl ?_
          refine WXL.extract Met.none rfl rfl ?_
          refine WXL.extract Met.none rfl rfl ?_
          refine WXL.assign Met.none rfl ?_
          refine WXL.assign Met.none rfl ?_
          refine WXL.nil ?_
          refine Fin.then_normal ?_
          refine WX.seq ?_
          refine WX.region rfl ?_
          refine WXL.move Met.none rfl ?_
          refine WXL.bin Met.none rfl rfl rfl ?_
          refine WXL.move Met.none rfl ?_
          refine WXL.split (d := 95) rfl (fun hg95 => ?_) (fun hg95 => ?_)
          · try simp only [cnd] at hg95
            exact absurd hg95 (by simp) --end
          · try simp only [cnd] at hg95
            refine WXL.move (Met.some rfl rfl rfl) rfl ?_
            refine WXL.move (Met.some rfl rfl rfl) rfl ?_
            refine WXL.split (d := 97) rfl (fun hg97 => ?_) (fun hg97 => ?_)
            · try simp only [cnd] at hg97
              refine WXL.move (Met.some rfl rfl rfl) rfl ?_
              refine WXL.bin (Met.some rfl rfl rfl) rfl rfl rfl ?_
              refine WXL.move (Met.some rfl rfl rfl) rfl ?_
              refine WXL.split (d := 100) rfl (fun hg100 => ?_) (fun hg100 => ?_)
              · try simp only [cnd] at hg100
                exact absurd (hkey hg97).1 hg100 --end
              · try simp only [cnd] at hg100
                refine WXL.move (Met.some rfl rfl rfl) rfl ?_
                refine WXL.move (Met.some rfl rfl rfl) rfl ?_
                refine WXL.bin (Met.some rfl rfl rfl) rfl rfl rfl ?_
                refine WXL.pick_f (Met.some rfl rfl rfl) rfl rfl ?_
                refine WXL.move (Met.some rfl rfl rfl) rfl ?_
                refine WXL.split (d := 105) rfl (fun hg105 => ?_) (fun hg105 => ?_)
                · try simp only [cnd] at hg105
                  exact absurd (hkey hg97).2.1 hg105 --end
                · try simp only [cnd] at hg105
                  refine WXL.move (Met.some rfl rfl rfl) rfl ?_
                  refine WXL.move (Met.some rfl rfl rfl) rfl ?_
                  refine WXL.bin (Met.some rfl rfl rfl) rfl rfl rfl ?_
                  refine WXL.pick_f (Met.some rfl rfl rfl) rfl rfl ?_
                  refine WXL.pick_t (Met.some rfl rfl rfl) rfl rfl ?_
                  refine WXL.pick_f Met.none rfl rfl ?_
                  refine WXL.move Met.none rfl ?_
                  refine WXL.split (d := 112) rfl (fun hg112 => ?_) (fun hg112 => ?_)
                  · try simp only [cnd] at hg112
                    exact absurd (hkey hg97).2.2 hg112 --end
                  · try simp only [cnd] at hg112
                    refine WXL.move (Met.some rfl rfl rfl) rfl ?_
                    refine WXL.bin (Met.some rfl rfl rfl) rfl rfl rfl ?_
                    refine WXL.move (Met.some rfl rfl rfl) rfl ?_
                    refine WXL.split (d := 115) rfl (fun hg115 => ?_) (fun hg115 => ?_)
                    · try simp only [cnd] at hg115
                      refine WXL.move (Met.some rfl rfl rfl) rfl ?_
                      refine WXL.move (Met.some rfl rfl rfl) rfl ?_
                      refine WXL.bin (Met.some rfl rfl rfl) rfl rfl rfl ?_
                      refine WXL.pick_t (Met.some rfl rfl rfl) rfl rfl ?_
                      refine WXL.move (Met.some rfl rfl rfl) rfl ?_
                      refine WXL.split (d := 120) rfl (fun hg120 => ?_) (fun hg120 => ?_)
                      · try simp only [cnd] at hg120
                        refine WXL.move (Met.some rfl rfl rfl) rfl ?_
                        refine WXL.pick_t (Met.some rfl rfl rfl) rfl rfl ?_
                        refine WXL.pick_f Met.none rfl rfl ?_
                        refine WXL.nil ?_
                        refine Fin.then_normal ?_
                        refine WX.cond rfl (fun hc3 => ?_) (fun hc3 => ?_)
                        · try simp only [cnd] at hc3
                          first | exact absurd hc3 hg97 | exact absurd (hkey hg97).2.1 (by omega) | exact absurd (hkey hc3).2.1 (by omega) --end
                        · try simp only [cnd] at hc3
                          refine WX.skip ?_
                          refine Fin.block_normal ?_
                          refine Fin.then_normal ?_
                          refine WX.region rfl ?_
                          refine WXL.move Met.none rfl ?_
                          refine WXL.bin Met.none rfl rfl bvA ?_
                          refine WXL.assign Met.none rfl ?_
                          refine WXL.nil ?_
                          exact Fin.loop_next (k + 1) (by omega) (by omega) (fun s hs => hs.tl [0, 1] 2)
                      · try simp only [cnd] at hg120
                        refine WXL.miss (j := 27) (d := 120) rfl rfl rfl ?_
                        refine WXL.pick_f (Met.some rfl rfl rfl) rfl rfl ?_
                        refine WXL.pick_f Met.none rfl rfl ?_
                        refine WXL.nil ?_
                        refine Fin.then_normal ?_
                        refine WX.cond rfl (fun hc3 => nomatch hc3) (fun hc3 => ?_)
                        refine WX.skip ?_
                        refine Fin.block_normal ?_
                        refine Fin.then_normal ?_
                        refine WX.region rfl ?_
                        refine WXL.move Met.none rfl ?_
                        refine WXL.bin Met.none rfl rfl bvA ?_
                        refine WXL.assign Met.none rfl ?_
                        refine WXL.nil ?_
                        exact Fin.loop_next (k + 1) (by omega) (by omega) (fun s hs => hs.tl [0, 1] 2)
                    · try simp only [cnd] at hg115
                      refine WXL.miss (j := 22) (d := 115) rfl rfl rfl ?_
                      refine WXL.miss (j := 22) (d := 115) rfl rfl rfl ?_
                      refine WXL.miss (j := 22) (d := 115) rfl rfl rfl ?_
                      refine WXL.pick_f (Met.some rfl rfl rfl) rfl rfl ?_
                      refine WXL.move (Met.some rfl rfl rfl) rfl ?_
                      refine WXL.miss (j := 27) (d := 120) rfl rfl rfl ?_
                      refine WXL.pick_f (Met.some rfl rfl rfl) rfl rfl ?_
                      refine WXL.pick_f Met.none rfl rfl ?_
                      refine WXL.nil ?_
                      refine Fin.then_normal ?_
                      refine WX.cond rfl (fun hc3 => nomatch hc3) (fun hc3 => ?_)
                      refine WX.skip ?_
                      refine Fin.block_normal ?_
                      refine Fin.then_normal ?_
                      refine WX.region rfl ?_
                      refine WXL.move Met.none rfl ?_
                      refine WXL.bin Met.none rfl rfl bvA ?_
                      refine WXL.assign Met.none rfl ?_
                      refine WXL.nil ?_
                      exact Fin.loop_next (k + 1) (by omega) (by omega) (fun s hs => hs.tl [0, 1] 2)
            · try simp only [cnd] at hg97
              refine WXL.miss (j := 4) (d := 97) rfl rfl rfl ?_
              refine WXL.miss (j := 4) (d := 97) rfl rfl rfl ?_
              refine WXL.miss (j := 4) (d := 97) rfl rfl rfl ?_
              refine WXL.missU (j := 7) (e := 100) rfl rfl ?_
              refine WXL.missU (j := 7) (e := 100) rfl rfl ?_
              refine WXL.missU (j := 7) (e := 100) rfl rfl ?_
              refine WXL.miss (j := 4) (d := 97) rfl rfl rfl ?_
              refine WXL.miss (j := 4) (d := 97) rfl rfl rfl ?_
              refine WXL.missU (j := 12) (e := 105) rfl rfl ?_
              refine WXL.missU (j := 12) (e := 105) rfl rfl ?_
              refine WXL.missU (j := 12) (e := 105) rfl rfl ?_
              refine WXL.miss (j := 4) (d := 97) rfl rfl rfl ?_
              refine WXL.pick_f (Met.some rfl rfl rfl) rfl rfl ?_
              refine WXL.pick_f Met.none rfl rfl ?_
              refine WXL.move Met.none rfl ?_
              refine WXL.move (Met.some rfl rfl rfl) rfl ?_
              refine WXL.bin (Met.some rfl rfl rfl) rfl rfl rfl ?_
              refine WXL.move (Met.some rfl rfl rfl) rfl ?_
              refine WXL.split (d := 115) rfl (fun hg115 => ?_) (fun hg115 => ?_)
              · try simp only [cnd] at hg115
                refine WXL.move (Met.some rfl rfl rfl) rfl ?_
                refine WXL.move (Met.some rfl rfl rfl) rfl ?_
                refine WXL.bin (Met.some rfl rfl rfl) rfl rfl rfl ?_
                refine WXL.pick_t (Met.some rfl rfl rfl) rfl rfl ?_
                refine WXL.move (Met.some rfl rfl rfl) rfl ?_
                refine WXL.split (d := 120) rfl (fun hg120 => ?_) (fun hg120 => ?_)
                · try simp only [cnd] at hg120
                  refine WXL.move (Met.some rfl rfl rfl) rfl ?_
                  refine WXL.pick_t (Met.some rfl rfl rfl) rfl rfl ?_
                  refine WXL.pick_f Met.none rfl rfl ?_
                  refine WXL.nil ?_
                  refine Fin.then_normal ?_
                  refine WX.cond rfl (fun hc3 => ?_) (fun hc3 => ?_)
                  · try simp only [cnd] at hc3
                    first | exact absurd hc3 hg97 | exact absurd (hkey hg97).2.1 (by omega) | exact absurd (hkey hc3).2.1 (by omega) --end
                  · try simp only [cnd] at hc3
                    refine WX.skip ?_
                    refine Fin.block_normal ?_
                    refine Fin.then_normal ?_
                    refine WX.region rfl ?_
                    refine WXL.move Met.none rfl ?_
                    refine WXL.bin Met.none rfl rfl bvA ?_
                    refine WXL.assign Met.none rfl ?_
                    refine WXL.nil ?_
                    exact Fin.loop_next (k + 1) (by omega) (by omega) (fun s hs => hs.tl [0, 1] 2)
                · try simp only [cnd] at hg120
                  refine WXL.miss (j := 27) (d := 120) rfl rfl rfl ?_
                  refine WXL.pick_f (Met.some rfl rfl rfl) rfl rfl ?_
                  refine WXL.pick_f Met.none rfl rfl ?_
                  refine WXL.nil ?_
                  refine Fin.then_normal ?_
                  refine WX.cond rfl (fun hc3 => nomatch hc3) (fun hc3 => ?_)
                  refine WX.skip ?_
                  refine Fin.block_normal ?_
                  refine Fin.then_normal ?_
                  refine WX.region rfl ?_
                  refine WXL.move Met.none rfl ?_
                  refine WXL.bin Met.none rfl rfl bvA ?_
                  refine WXL.assign Met.none rfl ?_
                  refine WXL.nil ?_
                  exact Fin.loop_next (k + 1) (by omega) (by omega) (fun s hs => hs.tl [0, 1] 2)
              · try simp only [cnd] at hg115
                refine WXL.miss (j := 22) (d := 115) rfl rfl rfl ?_
                refine WXL.miss (j := 22) (d := 115) rfl rfl rfl ?_
                refine WXL.miss (j := 22) (d := 115) rfl rfl rfl ?_
                refine WXL.pick_f (Met.some rfl rfl rfl) rfl rfl ?_
                refine WXL.move (Met.some rfl rfl rfl) rfl ?_
                refine WXL.miss (j := 27) (d := 120) rfl rfl rfl ?_
                refine WXL.pick_f (Met.some rfl rfl rfl) rfl rfl ?_
                refine WXL.pick_f Met.none rfl rfl ?_
                refine WXL.nil ?_
                refine Fin.then_normal ?_
                refine WX.cond rfl (fun hc3 => nomatch hc3) (fun hc3 => ?_)
                refine WX.skip ?_
                refine Fin.block_normal ?_
                refine Fin.then_normal ?_
                refine WX.region rfl ?_
                refine WXL.move Met.none rfl ?_
                refine WXL.bin Met.none rfl rfl bvA ?_
                refine WXL.assign Met.none rfl ?_
                refine WXL.nil ?_
                exact Fin.loop_next (k + 1) (by omega) (by omega) (fun s hs => hs.tl [0, 1] 2)
        · try simp only [cnd] at hc2
          refine WX.exit ?_
          refine Fin.then_exit ?_
          refine Fin.loop_exit ?_
          refine Fin.block_hit rfl ?_
          refine Fin.then_normal ?_
          refine WX.seq ?_
          refine WX.region rfl ?_
          refine WXL.cl (O1 := _) Met.none rfl (fnOk_of Try.func19 (by decide +kernel)) rfl (fun _ h => h) (lives_ok _) (fun v O' hp => ?_)
          obtain ⟨rfl, hO⟩ := hp
          subst O'
          refine WXL.assign Met.none rfl ?_
          refine WXL.nil ?_
          refine Fin.then_normal ?_
          refine WX.ret ?_
          exact Fin.result (O' := []) (.inr rfl) rfl rfl (fun _ hs => Sat.nil hs.wf) rfl

end Go.Proofs.Ytjmklialkjncaaa.Eng

set_option linter.unusedVariables false
set_option linter.unusedSimpArgs false
namespace Go.Proofs.Ytjmklialkjncaaa.Eng

theorem St.via {x : Cx} {L : Tmps} {O O' : Objs} {s : ASt} (hs : St x L O s) (hO : ∀ h, Sat h O → Sat h O') : St x L O' s := ⟨hs.m, hs.t, hO _ hs.sat, hs.old⟩

theorem paths_bad (O : Objs) (n : Net4) (f : List Int) (a af : Option Addr) (c cf : Nat) (hlen : n.edges.length ≤ 1000000) (hl : Edges O n a c) (hf : Src O 1 (.slice af f.length cf) f.length (f.map I)) {k : Int} (hk : Wrong n k) (hk0 : k ≠ 0) :
    Spec Try.prog false 30 #[netV n a c, .slice af f.length cf] O fun v O' => v = .tuple #[.slice none 0 0, .slice none 0 0, I k] ∧ O' = O := by
  refine Spec.enter (args := [_, _]) (m := 138) Try.func30 rfl rfl (by decide +kernel) fun h0 => ?_
  refine WX.seq ?_
  refine WX.region rfl ?_
  refine WXL.box (c := [_, _, _, _]) Met.none rfl rfl rfl (fun b2 => ?_)
  refine WXL.assign Met.none rfl ?_
  refine WXL.assign Met.none rfl ?_
  refine WXL.assign Met.none rfl ?_
  refine WXL.nil ?_
  refine Fin.then_normal ?_
  refine WX.seq ?_
  refine WX.seq ?_
  refine WX.region rfl ?_
  refine WXL.ldN (vs := [_, _, _, _]) Met.none rfl agg36 sz36 ?_
  refine WXL.move Met.none rfl ?_
  refine WXL.cl (O1 := _) Met.none rfl (fnOk_of Try.func23 (by decide +kernel)) rfl (fun _ h => h) (value_ok _ n f a af c cf hlen src_ src_) (fun v O' hp => ?_)
  obtain ⟨x, e, rfl, hv, rfl⟩ := hp
  obtain ⟨k', hk', hv1, _⟩ := hv
  have hkk := hk.uniq hk'
  subst hkk
  obtain ⟨rfl, rfl⟩ := hv1 hk0
  refine WXL.move Met.none rfl ?_
  refine WXL.extract Met.none rfl rfl ?_
  refine WXL.extract Met.none rfl rfl ?_
  refine WXL.assign Met.none rfl ?_
  refine WXL.assign Met.none rfl ?_
  refine WXL.nil ?_
  refine Fin.then_normal ?_
  refine WX.seq ?_
  refine WX.region rfl ?_
  refine WXL.move Met.none rfl ?_
  refine WXL.bin Met.none rfl rfl rfl ?_
  refine WXL.nil ?_
  refine Fin.then_normal ?_
  refine WX.cond rfl (fun hc0 => ?_) (fun hc0 => ?_)
  · try simp only [cnd] at hc0
    refine WX.seq ?_
    refine WX.region rfl ?_
    refine WXL.move Met.none rfl ?_
    refine WXL.assign Met.none rfl ?_
    refine WXL.assign Met.none rfl ?_
    refine WXL.assign Met.none rfl ?_
    refine WXL.nil ?_
    refine Fin.then_normal ?_
    refine WX.ret ?_
    refine Fin.then_ret ?_
    exact Fin.result (O' := O) (.inr rfl) rfl rfl drop_ ⟨rfl, rfl⟩
  · try simp only [cnd] at hc0
    exact absurd hc0 hk0 --end

theorem MaxBad {n : Net4} {k : Int} (hk : Wrong n k) (hk0 : k ≠ 0) {e : Int} (h : ChkR n [] [] e) : e = k := by
  obtain ⟨x, ev, ⟨k', h1, h2, _⟩, h3, _⟩ := h
  have := hk.uniq h1
  subst this
  obtain ⟨_, rfl⟩ := h2 hk0
  exact h3 hk0

theorem Wrong.in4 {n : Net4} {k : Int} (h : Wrong n k) : k = 0 ∨ k = 1 ∨ k = 4 ∨ k = 5 := by
  unfold Wrong at h
  rcases h with ⟨_, h⟩ | ⟨_, _, h⟩ | ⟨_, _, _, h⟩ | ⟨_, _, _, h⟩ <;> omega

theorem flowValid_ok (O : Objs) (l : List Int) (how by_ other : Int) (a : Option Addr) (c : Nat) (hl : Src O 1 (.slice a l.length c) l.length (l.map I)) (h64 : All64 l) (hlen : Short l) (hh : In64 how) (hb : In64 by_) (ho : In64 other) :
    Spec Try.prog false 10 #[.slice a l.length c, I how, I by_, I other] O fun v _ => v = .bool true := by
  have hh' := hh
  unfold In64 at hh'
  have hnl := netOf_len l
  have hn0 := netOf_sound l
  refine Spec.enter (args := [_, _, _, _]) (m := 146) Try.func10 rfl rfl (by decide +kernel) fun h0 => ?_
  refine WX.seq ?_
  refine WX.region rfl ?_
  refine WXL.assign Met.none rfl ?_
  refine WXL.nil ?_
  refine Fin.then_normal ?_
  refine WX.seq ?_
  refine WX.region rfl ?_
  refine WXL.move Met.none rfl ?_
  refine WXL.cl (O1 := _) Met.none rfl (fnOk_of Try.func11 (by decide +kernel)) rfl (fun _ h => h) (network_ok _ l a c src_ h64 hlen) (fun v O' hp => ?_)
  obtain ⟨a1, c1, G1, rfl, hG1, rfl⟩ := hp
  refine WXL.alloc (c := [_, _, _, _]) Met.none zero25 rfl (fun b9 => ?_)
  refine WXL.st (vs := [_, _, _, _]) (c' := [_, _, _, _]) Met.none rfl rfl rfl sz25 ?_
  refine WXL.nil ?_
  refine Fin.then_normal ?_
  refine WX.seq ?_
  refine WX.region rfl ?_
  refine WXL.ldN (vs := [_, _, _, _]) Met.none rfl agg25 sz25 ?_
  refine WXL.move Met.none rfl ?_
  refine WXL.move Met.none rfl ?_
  refine WXL.cl (O1 := _) Met.none rfl (fnOk_of Try.func12 (by decide +kernel)) rfl (fun _ h => h) (spoilt_ok _ (netOf l) how by_ a1 c1 src_ (by omega) hh hb) (fun v O' hp => ?_)
  obtain ⟨x, a2, c2, G2, rfl, hG2, hxl, rfl⟩ := hp
  refine WXL.of (fun s hs => St.swap (G := G2) [_] hs) ?_
  refine WXL.alloc (c := [_, _, _, _]) Met.none zero25 rfl (fun b10 => ?_)
  refine WXL.st (vs := [_, _, _, _]) (c' := [_, _, _, _]) Met.none rfl rfl rfl sz25 ?_
  refine WXL.nil ?_
  refine Fin.then_normal ?_
  refine WX.seq ?_
  refine WX.draw rfl ?_
  refine WXL.ldN (vs := [_, _, _, _]) Met.none rfl agg25 sz25 ?_
  refine WXL.ldN (vs := [_, _, _, _]) Met.none rfl agg25 sz25 ?_
  refine WXL.ldN (vs := [_, _, _, _]) Met.none rfl agg25 sz25 ?_
  refine WXL.move Met.none rfl ?_
  refine WXL.qu Met.none rfl rfl ?_
  refine WXL.move Met.none rfl ?_
  refine WXL.cl (O1 := _) Met.none rfl (fnOk_of Try.func12 (by decide +kernel)) rfl (fun _ h => h) (spoilt_q _ x (how.tdiv 64) other a2 c2 src_ (by omega) (In64.quo hh (by omega)) ho) (fun v O' hp => ?_)
  obtain ⟨x2, a9, c9, G9, rfl, hG9, hxl2, rfl⟩ := hp
  refine WXL.of (fun s hs => St.swap (G := G9) [_, _] hs) ?_
  refine WXL.buildSlice (c := [_, _, _, _, _, _, _, _, _, _, _, _]) Met.none rfl elem29 sz25 zero25 (by decide) (by decide) rfl rfl rfl rfl (fun b40 => ?_)
  refine WXL.assign Met.none rfl ?_
  refine WXL.nil ?_
  refine Fin.then_normal ?_
  refine WX.seq ?_
  refine WX.seq ?_
  refine WX.region rfl ?_
  refine WXL.assign Met.none rfl ?_
  refine WXL.nil ?_
  refine Fin.then_normal ?_
  refine WX.block ?_
  obtain ⟨Ls, hLs⟩ : ∃ Ls : List NetP, Ls = [⟨netOf l, a1, c1⟩, ⟨x, a2, c2⟩, ⟨x2, a9, c9⟩] := ⟨_, rfl⟩
  have hLl : Ls.length = 3 := by rw [hLs]; rfl
  obtain ⟨T, hT⟩ : ∃ T : Objs, T = (b9, (⟨0, false, [I (netOf l).nodes, I (netOf l).source, I (netOf l).sink, .slice a1 (netOf l).edges.length c1]⟩ : Ent)) :: (G9 ++ (G2 ++ (G1 ++ O))) := ⟨_, rfl⟩
  have hT9 : Knows T b9 ⟨0, false, [I (netOf l).nodes, I (netOf l).source, I (netOf l).sink, .slice a1 (netOf l).edges.length c1]⟩ := by rw [hT]; exact Knows.at 0 rfl
  have hE : ∀ k, k < 3 → Edges T (nth Ls k).net (nth Ls k).a (nth Ls k).c ∧ (nth Ls k).net.edges.length ≤ 1000 := by
    intro k hk
    rw [hT, hLs]
    have : k = 0 ∨ k = 1 ∨ k = 2 := by omega
    rcases this with rfl | rfl | rfl
    · exact ⟨Src.cons (Src.app (Src.app hG1.src)), by show (netOf l).edges.length ≤ 1000; omega⟩
    · exact ⟨Src.cons (Src.app hG2.src), by show x.edges.length ≤ 1000; omega⟩
    · exact ⟨Src.cons hG9.src, by show x2.edges.length ≤ 1000; omega⟩
  have hE0 : Edges T (netOf l) a1 c1 := by have := (hE 0 (by omega)).1; rw [hLs] at this; exact this
  refine WX.loop (fun k : Nat => [(9, Ptr b9 0), (11, Row b40 0 3 3), (12, I (k : Int))]) (fun _ => (b40, ⟨4, false, flat encN Ls⟩) :: T) (fun k => k ≤ 3) (fun k => 3 - k) 0 (by omega) ?_ (fun k hk => ?_)
  · rw [hLs, hT]
    exact (fun s hs => hs.tl [0, 2] 3)
  refine WX.seq ?_
  refine WX.seq ?_
  refine WX.region rfl ?_
  refine WXL.move Met.none rfl ?_
  refine WXL.bin Met.none rfl rfl rfl ?_
  refine WXL.nil ?_
  refine Fin.then_normal ?_
  refine WX.cond rfl (fun hc0 => ?_) (fun hc0 => ?_)
  · try simp only [cnd] at hc0
    refine WX.skip ?_
    refine Fin.then_normal ?_
    refine WX.seq ?_
    refine WX.block ?_
    refine WX.seq ?_
    obtain ⟨hEk, hlk⟩ := hE k (by omega)
    refine WX.region rfl ?_
    refine WXL.move Met.none rfl ?_
    refine WXL.move Met.none rfl ?_
    first | refine WXL.ix Met.none rfl rfl elem29 sz25 ?_ | refine WXL.ixS Met.none rfl rfl elem29 sz25 ?_
    first | refine WXL.ldN Met.none rfl agg25 sz25 ?_ (hv := (cellsAt_flat encN_len Ls k (by omega))) | refine WXL.ldNS Met.none rfl agg25 sz25 ?_ (hv := (cellsAt_flat encN_len Ls k (by omega)))
    refine WXL.cl (O1 := _) Met.none rfl (fnOk_of Try.func14 (by decide +kernel)) rfl (fun _ h => h) (refValid_ok _ (nth Ls k).net (nth Ls k).a (nth Ls k).c src_ (by omega)) (fun v O' hp => ?_)
    obtain ⟨e0, rfl, hw0, rfl⟩ := hp
    refine WXL.assign Met.none rfl ?_
    refine WXL.nil ?_
    refine Fin.then_normal ?_
    refine WX.seq ?_
    refine WX.seq ?_
    refine WX.region rfl ?_
    refine WXL.move Met.none rfl ?_
    refine WXL.move Met.none rfl ?_
    first | refine WXL.ix Met.none rfl rfl elem29 sz25 ?_ | refine WXL.ixS Met.none rfl rfl elem29 sz25 ?_
    first | refine WXL.ldN Met.none rfl agg25 sz25 ?_ (hv := (cellsAt_flat encN_len Ls k (by omega))) | refine WXL.ldNS Met.none rfl agg25 sz25 ?_ (hv := (cellsAt_flat encN_len Ls k (by omega)))
    refine WXL.cl (O1 := _) Met.none rfl (fnOk_of Try.func16 (by decide +kernel)) rfl (fun _ h => h) (own_ok _ (nth Ls k).net (nth Ls k).a (nth Ls k).c src_ (by omega)) (fun v O' hp => ?_)
    obtain ⟨a3, c3, G3, rfl, hG3, rfl⟩ := hp
    refine WXL.cl (O1 := _) Met.none rfl (fnOk_of Try.func34 (by decide +kernel)) rfl (fun _ h => h) (valid_ok _ (nth Ls k).net a3 c3 src_ (by omega)) (fun v O' hp => ?_)
    obtain ⟨e1, rfl, hw1, rfl⟩ := hp
    have he := hw1.uniq hw0
    subst he
    refine WXL.of (fun s hs => St.swap (G := G3) [_] hs) ?_
    refine WXL.move Met.none rfl ?_
    refine WXL.bin Met.none rfl rfl rfl ?_
    refine WXL.nil ?_
    refine Fin.then_normal ?_
    refine WX.cond rfl (fun hc1 => ?_) (fun hc1 => ?_)
    · try simp only [cnd] at hc1
      exact absurd hc1 (by simp) --end
    · try simp only [cnd] at hc1
      refine WX.skip ?_
      refine Fin.then_normal ?_
      refine WX.seq ?_
      refine WX.seq ?_
      refine WX.region rfl ?_
      refine WXL.move Met.none rfl ?_
      refine WXL.bin Met.none rfl rfl rfl ?_
      refine WXL.nil ?_
      refine Fin.then_normal ?_
      refine WX.cond rfl (fun hc2 => ?_) (fun hc2 => ?_)
      · try simp only [cnd] at hc2
        refine WX.exit ?_
        refine Fin.then_exit ?_
        refine Fin.block_hit rfl ?_
        refine Fin.then_normal ?_
        refine WX.region rfl ?_
        refine WXL.move Met.none rfl ?_
        refine WXL.bin Met.none rfl rfl bvA ?_
        refine WXL.assign Met.none rfl ?_
        refine WXL.nil ?_
        first
        | exact Fin.loop_next (k + 1) (by omega) (by omega) (fun s hs => St.mid (G := [_]) (A := G3) (hs.tl (L' := [(9, Ptr b9 0), (11, Row b40 0 3 3), (12, I ((k + 1 : Nat) : Int))]) [0] 1))
        | exact Fin.loop_next (k + 1) (by omega) (by omega) (fun s hs => St.tl [0] 1 (St.via hs (fun h hh => Sat.mid (G := [_]) (A := G3) (hh.tail.app_right.app_right.app_right))))
      · try simp only [cnd] at hc2
        refine WX.skip ?_
        refine Fin.then_normal ?_
        refine WX.seq ?_
        refine WX.region rfl ?_
        refine WXL.move Met.none rfl ?_
        refine WXL.move Met.none rfl ?_
        first | refine WXL.ix Met.none rfl rfl elem29 sz25 ?_ | refine WXL.ixS Met.none rfl rfl elem29 sz25 ?_
        first | refine WXL.ldN Met.none rfl agg25 sz25 ?_ (hv := (cellsAt_flat encN_len Ls k (by omega))) | refine WXL.ldNS Met.none rfl agg25 sz25 ?_ (hv := (cellsAt_flat encN_len Ls k (by omega)))
        refine WXL.cl (O1 := _) Met.none rfl (fnOk_of Try.func16 (by decide +kernel)) rfl (fun _ h => h) (own_ok _ (nth Ls k).net (nth Ls k).a (nth Ls k).c src_ (by omega)) (fun v O' hp => ?_)
        obtain ⟨a4, c4, G4, rfl, hG4, rfl⟩ := hp
        refine WXL.alloc (c := [_, _, _, _]) Met.none zero36 rfl (fun b14 => ?_)
        refine WXL.st (vs := [_, _, _, _]) (c' := [_, _, _, _]) Met.none rfl rfl rfl sz36 ?_
        refine WXL.nil ?_
        refine Fin.then_normal ?_
        refine WX.seq ?_
        refine WX.region rfl ?_
        refine WXL.ldN (vs := [_, _, _, _]) Met.none rfl agg36 sz36 ?_
        refine WXL.cl (O1 := _) Met.none rfl (fnOk_of Try.func15 (by decide +kernel)) rfl (fun _ h => h) (max_ok _ (nth Ls k).net a4 c4 src_ (by omega)) (fun v O' hp => ?_)
        obtain ⟨e2, hw2, _, hm2⟩ := hp
        have he := hw2.uniq hw1
        subst he
        obtain ⟨rfl, rfl⟩ := hm2 hc2
        refine WXL.move Met.none rfl ?_
        refine WXL.extract Met.none rfl rfl ?_
        refine WXL.extract Met.none rfl rfl ?_
        refine WXL.extract Met.none rfl rfl ?_
        refine WXL.assign Met.none rfl ?_
        refine WXL.assign Met.none rfl ?_
        refine WXL.assign Met.none rfl ?_
        refine WXL.nil ?_
        refine Fin.then_normal ?_
        refine WX.seq ?_
        refine WX.region rfl ?_
        refine WXL.ldN (vs := [_, _, _, _]) Met.none rfl agg36 sz36 ?_
        refine WXL.cl (O1 := _) Met.none rfl (fnOk_of Try.func22 (by decide +kernel)) rfl (fun _ h => h) (cut_ok _ (nth Ls k).net [] a4 none c4 0 (by omega) src_ Src.nil) (fun v O' hp => ?_)
        obtain ⟨s5, e5, a5, c5, G5, rfl, ⟨k5, hw5, hk5, _⟩, hG5, rfl⟩ := hp
        have he := hw5.uniq hw1
        subst he
        obtain ⟨rfl, rfl⟩ := hk5 hc2
        refine WXL.of (fun s hs => St.swap (G := G5) [_] hs) ?_
        refine WXL.move Met.none rfl ?_
        refine WXL.extract Met.none rfl rfl ?_
        refine WXL.extract Met.none rfl rfl ?_
        refine WXL.assign Met.none rfl ?_
        refine WXL.assign Met.none rfl ?_
        refine WXL.nil ?_
        refine Fin.then_normal ?_
        refine WX.seq ?_
        refine WX.region rfl ?_
        refine WXL.ldN (vs := [_, _, _, _]) Met.none rfl agg36 sz36 ?_
        refine WXL.cl (O1 := _) Met.none rfl (fnOk_of Try.func23 (by decide +kernel)) rfl (fun _ h => h) (value_ok _ (nth Ls k).net [] a4 none c4 0 (by omega) src_ Src.nil) (fun v O' hp => ?_)
        obtain ⟨x6, e6, rfl, ⟨k6, hw6, hk6, _⟩, rfl⟩ := hp
        have he := hw6.uniq hw1
        subst he
        obtain ⟨rfl, rfl⟩ := hk6 hc2
        refine WXL.move Met.none rfl ?_
        refine WXL.extract Met.none rfl rfl ?_
        refine WXL.extract Met.none rfl rfl ?_
        refine WXL.assign Met.none rfl ?_
        refine WXL.assign Met.none rfl ?_
        refine WXL.nil ?_
        refine Fin.then_normal ?_
        refine WX.seq ?_
        refine WX.region rfl ?_
        refine WXL.ldN (vs := [_, _, _, _]) Met.none rfl agg36 sz36 ?_
        refine WXL.cl (O1 := _) Met.none rfl (fnOk_of Try.func28 (by decide +kernel)) rfl (fun _ h => h) (across_ok _ (nth Ls k).net [] a4 none c4 0 (by omega) src_ Src.nil) (fun v O' hp => ?_)
        obtain ⟨x7, e7, rfl, ⟨k7, hw7, hk7, _⟩, rfl⟩ := hp
        have he := hw7.uniq hw1
        subst he
        obtain ⟨rfl, rfl⟩ := hk7 hc2
        refine WXL.move Met.none rfl ?_
        refine WXL.extract Met.none rfl rfl ?_
        refine WXL.extract Met.none rfl rfl ?_
        refine WXL.assign Met.none rfl ?_
        refine WXL.assign Met.none rfl ?_
        refine WXL.nil ?_
        refine Fin.then_normal ?_
        refine WX.seq ?_
        refine WX.region rfl ?_
        refine WXL.ldN (vs := [_, _, _, _]) Met.none rfl agg36 sz36 ?_
        refine WXL.cl (O1 := _) Met.none rfl (fnOk_of Try.func30 (by decide +kernel)) rfl (fun _ h => h) (paths_bad _ (nth Ls k).net [] a4 none c4 0 (by omega) src_ Src.nil hw1 hc2) (fun v O' hp => ?_)
        obtain ⟨rfl, hO⟩ := hp
        subst O'
        refine WXL.move Met.none rfl ?_
        refine WXL.extract Met.none rfl rfl ?_
        refine WXL.extract Met.none rfl rfl ?_
        refine WXL.extract Met.none rfl rfl ?_
        refine WXL.assign Met.none rfl ?_
        refine WXL.assign Met.none rfl ?_
        refine WXL.assign Met.none rfl ?_
        refine WXL.nil ?_
        refine Fin.then_normal ?_
        refine WX.seq ?_
        refine WX.region rfl ?_
        refine WXL.move Met.none rfl ?_
        refine WXL.move Met.none rfl ?_
        refine WXL.bin Met.none rfl rfl rfl ?_
        refine WXL.move Met.none rfl ?_
        refine WXL.split (d := 95) rfl (fun hg95 => ?_) (fun hg95 => ?_)
        · try simp only [cnd] at hg95
          exact absurd hg95 (by simp) --end
        · try simp only [cnd] at hg95
          refine WXL.move (Met.some rfl rfl rfl) rfl ?_
          refine WXL.move (Met.some rfl rfl rfl) rfl ?_
          refine WXL.bin (Met.some rfl rfl rfl) rfl rfl rfl ?_
          refine WXL.pick_f Met.none rfl rfl ?_
          refine WXL.move Met.none rfl ?_
          refine WXL.split (d := 100) rfl (fun hg100 => ?_) (fun hg100 => ?_)
          · try simp only [cnd] at hg100
            exact absurd hg100 (by simp) --end
          · try simp only [cnd] at hg100
            refine WXL.move (Met.some rfl rfl rfl) rfl ?_
            refine WXL.move (Met.some rfl rfl rfl) rfl ?_
            refine WXL.bin (Met.some rfl rfl rfl) rfl rfl rfl ?_
            refine WXL.pick_f Met.none rfl rfl ?_
            refine WXL.move Met.none rfl ?_
            refine WXL.split (d := 105) rfl (fun hg105 => ?_) (fun hg105 => ?_)
            · try simp only [cnd] at hg105
              exact absurd hg105 (by simp) --end
            · try simp only [cnd] at hg105
              refine WXL.move (Met.some rfl rfl rfl) rfl ?_
              refine WXL.move (Met.some rfl rfl rfl) rfl ?_
              refine WXL.bin (Met.some rfl rfl rfl) rfl rfl rfl ?_
              refine WXL.pick_f Met.none rfl rfl ?_
              refine WXL.move Met.none rfl ?_
              refine WXL.split (d := 110) rfl (fun hg110 => ?_) (fun hg110 => ?_)
              · try simp only [cnd] at hg110
                exact absurd hg110 (by simp) --end
              · try simp only [cnd] at hg110
                refine WXL.move (Met.some rfl rfl rfl) rfl ?_
                refine WXL.move (Met.some rfl rfl rfl) rfl ?_
                refine WXL.bin (Met.some rfl rfl rfl) rfl rfl rfl ?_
                refine WXL.pick_f Met.none rfl rfl ?_
                refine WXL.move Met.none rfl ?_
                refine WXL.split (d := 115) rfl (fun hg115 => ?_) (fun hg115 => ?_)
                · try simp only [cnd] at hg115
                  exact absurd hg115 (by simp) --end
                · try simp only [cnd] at hg115
                  refine WXL.ldN (vs := [_, _, _, _]) (Met.some rfl rfl rfl) rfl agg36 sz36 ?_
                  refine WXL.cl (O1 := _) (Met.some rfl rfl rfl) rfl (fnOk_of Try.func26 (by decide +kernel)) rfl (fun _ h => h) (check_ok _ (nth Ls k).net [] [] a4 none none c4 0 0 (by omega) src_ Src.nil Src.nil) (fun v O' hp => ?_)
                  obtain ⟨y, rfl, hy, rfl⟩ := hp
                  have hye := MaxBad hw1 hc2 hy
                  subst hye
                  refine WXL.move (Met.some rfl rfl rfl) rfl ?_
                  refine WXL.bin (Met.some rfl rfl rfl) rfl rfl rfl ?_
                  refine WXL.pick_f Met.none rfl rfl ?_
                  refine WXL.move Met.none rfl ?_
                  refine WXL.split (d := 121) rfl (fun hg121 => ?_) (fun hg121 => ?_)
                  · try simp only [cnd] at hg121
                    exact absurd hg121 (by simp) --end
                  · try simp only [cnd] at hg121
                    refine WXL.move (Met.some rfl rfl rfl) rfl ?_
                    refine WXL.bin (Met.some rfl rfl rfl) rfl rfl rfl ?_
                    refine WXL.pick_f Met.none rfl rfl ?_
                    refine WXL.move Met.none rfl ?_
                    refine WXL.split (d := 125) rfl (fun hg125 => ?_) (fun hg125 => ?_)
                    · try simp only [cnd] at hg125
                      exact absurd hg125 (by simp) --end
                    · try simp only [cnd] at hg125
                      refine WXL.move (Met.some rfl rfl rfl) rfl ?_
                      refine WXL.len (Met.some rfl rfl rfl) rfl Try.underlying22 ?_
                      refine WXL.move (Met.some rfl rfl rfl) rfl ?_
                      refine WXL.len (Met.some rfl rfl rfl) rfl Try.underlying46 ?_
                      refine WXL.bin (Met.some rfl rfl rfl) rfl rfl rfl ?_
                      refine WXL.move (Met.some rfl rfl rfl) rfl ?_
                      refine WXL.len (Met.some rfl rfl rfl) rfl Try.underlying50 ?_
                      refine WXL.bin (Met.some rfl rfl rfl) rfl rfl rfl ?_
                      refine WXL.move (Met.some rfl rfl rfl) rfl ?_
                      refine WXL.len (Met.some rfl rfl rfl) rfl Try.underlying22 ?_
                      refine WXL.bin (Met.some rfl rfl rfl) rfl rfl rfl ?_
                      refine WXL.bin (Met.some rfl rfl rfl) rfl rfl rfl ?_
                      refine WXL.pick_f Met.none rfl rfl ?_
                      refine WXL.nil ?_
                      refine Fin.then_normal ?_
                      refine WX.cond rfl (fun hc3 => ?_) (fun hc3 => ?_)
                      · try simp only [cnd] at hc3
                        exact absurd hc3 (by first | decide | (simp; done)) --end
                      · try simp only [cnd] at hc3
                        refine WX.skip ?_
                        refine Fin.block_normal ?_
                        refine Fin.then_normal ?_
                        refine WX.region rfl ?_
                        refine WXL.move Met.none rfl ?_
                        refine WXL.bin Met.none rfl rfl bvA ?_
                        refine WXL.assign Met.none rfl ?_
                        refine WXL.nil ?_
                        first
                        | exact Fin.loop_next (k + 1) (by omega) (by omega) (fun s hs => St.mid (G := [_]) (A := G3) (hs.tl (L' := [(9, Ptr b9 0), (11, Row b40 0 3 3), (12, I ((k + 1 : Nat) : Int))]) [0] 1))
                        | exact Fin.loop_next (k + 1) (by omega) (by omega) (fun s hs => St.tl [0] 1 (St.via hs (fun h hh => Sat.mid (G := [_]) (A := G3) (hh.tail.app_right.app_right.app_right))))
  · try simp only [cnd] at hc0
    refine WX.exit ?_
    refine Fin.then_exit ?_
    refine Fin.loop_exit ?_
    refine Fin.block_hit rfl ?_
    refine Fin.then_normal ?_
    refine WX.seq ?_
    refine WX.region rfl ?_
    refine WXL.ldN (vs := [_, _, _, _]) Met.none rfl agg25 sz25 ?_
    refine WXL.cl (O1 := _) Met.none rfl (fnOk_of Try.func16 (by decide +kernel)) rfl (fun _ h => h) (own_ok _ (netOf l) a1 c1 src_ (by omega)) (fun v O' hp => ?_)
    obtain ⟨a8, c8, G8, rfl, hG8, rfl⟩ := hp
    refine WXL.cl (O1 := _) Met.none rfl (fnOk_of Try.func34 (by decide +kernel)) rfl (fun _ h => h) (valid_ok _ (netOf l) a8 c8 src_ (by omega)) (fun v O' hp => ?_)
    obtain ⟨e8, rfl, hw8, rfl⟩ := hp
    have he := hn0.wrong hw8
    subst he
    refine WXL.bin Met.none rfl rfl rfl ?_
    refine WXL.move Met.none rfl ?_
    refine WXL.split (d := 143) rfl (fun hg143 => ?_) (fun hg143 => ?_)
    · try simp only [cnd] at hg143
      refine WXL.cl (O1 := _) (Met.some rfl rfl rfl) rfl (fnOk_of Try.func19 (by decide +kernel)) rfl (fun _ h => h) (lives_ok _) (fun v O' hp => ?_)
      obtain ⟨rfl, hO⟩ := hp
      subst O'
      refine WXL.pick_t Met.none rfl rfl ?_
      refine WXL.assign Met.none rfl ?_
      refine WXL.nil ?_
      refine Fin.then_normal ?_
      refine WX.ret ?_
      exact Fin.result (O' := []) (.inr rfl) rfl rfl (fun _ hs => Sat.nil hs.wf) rfl
    · try simp only [cnd] at hg143
      exact absurd trivial hg143 --end

end Go.Proofs.Ytjmklialkjncaaa.Eng
