/- A flow is changed along a way, in plain lists. Own work; no condition. -/
import Derived.Test.YtjmklialkjncaaaFlR
set_option linter.unusedVariables false
set_option linter.unusedSimpArgs false
namespace Go.Proofs.Ytjmklialkjncaaa.Eng

/-- What is left on an edge in the direction in which it leads to a node. -/
def restOn (n : Net4) (f : List Int) (q : Nat × Int) : Int := (restR (nth n.edges q.1) (nth f q.1) (otherR (nth n.edges q.1) q.2)).2
def leastW (n : Net4) (f : List Int) (x : Int) (p : List (Nat × Int)) : Int := p.foldl (fun m q => min m (restOn n f q)) x
def changeW (n : Net4) (d : Int) (p : List (Nat × Int)) (f : List Int) : List Int := p.foldl (fun f q => changeR n f q.1 q.2 d) f

theorem Way.head {n : Net4} {f l : List Int} {v : Int} {p : List (Nat × Int)} (h : Way n f l v p) : v = n.source ∨ ∃ q ∈ p, q.2 = v := by
  cases h with
  | root => exact .inl rfl
  | step => exact .inr ⟨_, List.mem_cons_self .., rfl⟩

theorem Way.edges {n : Net4} {f l : List Int} {v : Int} {p : List (Nat × Int)} (h : Way n f l v p) : ∀ q ∈ p, q.1 < n.edges.length ∧ 0 < restOn n f q ∧ ((nth n.edges q.1).a = q.2 ∨ (nth n.edges q.1).b = q.2) ∧
    (otherR (nth n.edges q.1) q.2 = n.source ∨ ∃ q' ∈ p, q'.2 = otherR (nth n.edges q.1) q.2) := by
  induction h with
  | root => intro q hq; simp at hq
  | @step v i p h1 h2 h3 h4 h5 h6 h7 h8 hw ih =>
    intro q hq
    rcases List.mem_cons.1 hq with rfl | hq
    · refine ⟨h4, h6, ?_, ?_⟩
      · unfold restR at h5 h6
        split at h5
        · exact .inr h5
        · split at h5
          · exact .inl h5
          · rename_i e1 e2
            simp only [if_neg e1, if_neg e2] at h6
            omega
      · rcases hw.head with e | ⟨q', g1, g2⟩
        · exact .inl e
        · exact .inr ⟨q', List.mem_cons_of_mem _ g1, g2⟩
    · obtain ⟨g1, g2, g3, g4⟩ := ih q hq
      refine ⟨g1, g2, g3, ?_⟩
      rcases g4 with g4 | ⟨q', g5, g6⟩
      · exact .inl g4
      · exact .inr ⟨q', List.mem_cons_of_mem _ g5, g6⟩

theorem changeW_length (n : Net4) (d : Int) (p : List (Nat × Int)) (f : List Int) : (changeW n d p f).length = f.length := by
  unfold changeW
  induction p generalizing f with
  | nil => rfl
  | cons q p ih => rw [List.foldl_cons, ih]; unfold changeR; rw [List.length_set]

theorem endpoint {e : E4} {v w : Int} (hv : e.a = v ∨ e.b = v) (hw : e.a = w ∨ e.b = w) : v = w ∨ v = otherR e w := by
  unfold otherR
  split <;> omega

/-- No edge comes twice. -/
theorem Way.nodup {n : Net4} {f l : List Int} {v : Int} {p : List (Nat × Int)} (h : Way n f l v p) : (p.map (·.1)).Nodup := by
  induction h with
  | root => simp
  | @step v i p h1 h2 h3 h4 h5 h6 h7 h8 hw ih =>
    rw [List.map_cons, List.nodup_cons]
    refine ⟨fun hm => ?_, ih⟩
    obtain ⟨⟨i', v'⟩, hq, e⟩ := List.mem_map.1 hm
    simp only at e
    subst e
    obtain ⟨_, _, g3, g4⟩ := hw.edges _ hq
    obtain ⟨_, _, k3, _⟩ := (Way.step h1 h2 h3 h4 h5 h6 h7 h8 hw).edges _ (List.mem_cons_self ..)
    rcases endpoint k3 g3 with e | e
    · exact h7 _ hq e.symm
    · rcases g4 with g4 | ⟨q', g5, g6⟩
      · exact h8 (by simp only at e g4; rw [e, g4])
      · exact h7 q' g5 (by simp only at e g6; rw [g6, e])

theorem changeW_other {n : Net4} {d : Int} {p : List (Nat × Int)} {f : List Int} {j : Nat} (hj : j < f.length) (h : j ∉ p.map (·.1)) : nth (changeW n d p f) j = nth f j := by
  unfold changeW
  induction p generalizing f with
  | nil => rfl
  | cons q p ih =>
    rw [List.map_cons, List.mem_cons] at h
    rw [List.foldl_cons, ih (by unfold changeR; rw [List.length_set]; exact hj) (fun e => h (.inr e))]
    unfold changeR
    by_cases hq : q.1 < f.length
    · rw [nth_set hq hj, if_neg (fun e => h (.inl e.symm))]
    · rw [List.set_eq_of_length_le (by omega)]

theorem changeW_mem {n : Net4} {d : Int} {p : List (Nat × Int)} {f : List Int} {i : Nat} {w : Int} (hi : i < f.length) (hnd : (p.map (·.1)).Nodup) (hm : (i, w) ∈ p) :
    nth (changeW n d p f) i = if (nth n.edges i).b = w then nth f i + d else nth f i - d := by
  induction p generalizing f with
  | nil => simp at hm
  | cons q p ih =>
    obtain ⟨h1, h2⟩ := List.nodup_cons.1 hnd
    have hlen : (changeR n f q.1 q.2 d).length = f.length := by unfold changeR; rw [List.length_set]
    rcases List.mem_cons.1 hm with rfl | hm
    · show nth (changeW n d p (changeR n f i w d)) i = _
      rw [changeW_other (by rw [hlen]; exact hi) h1]
      unfold changeR
      rw [nth_set hi hi, if_pos rfl]
    · show nth (changeW n d p (changeR n f q.1 q.2 d)) i = _
      rw [ih (by rw [hlen]; exact hi) h2 hm]
      have hne : q.1 ≠ i := fun e => h1 (List.mem_map.2 ⟨(i, w), hm, e.symm⟩)
      have : nth (changeR n f q.1 q.2 d) i = nth f i := by
        unfold changeR
        by_cases hq : q.1 < f.length
        · rw [nth_set hq hi, if_neg hne]
        · rw [List.set_eq_of_length_le (by omega)]
      rw [this]

theorem restOn_eq {n : Net4} (hn : Sound n) {f : List Int} {i : Nat} {w : Int} (hi : i < n.edges.length) (hw : (nth n.edges i).a = w ∨ (nth n.edges i).b = w) :
    restOn n f (i, w) = if (nth n.edges i).b = w then (nth n.edges i).cap - nth f i else (nth n.edges i).back + nth f i := by
  have he := hn.at hi
  unfold restOn restR otherR
  simp only
  by_cases hb : (nth n.edges i).b = w
  · have ha : ¬ (nth n.edges i).a = w := by omega
    rw [if_pos hb, if_neg ha, if_pos rfl]
  · have ha : (nth n.edges i).a = w := by omega
    rw [if_neg hb, if_pos ha, if_neg (by omega), if_pos rfl]

theorem Flow.change {n : Net4} (hn : Sound n) {f l : List Int} (hf : Flow n f) {v d : Int} {p : List (Nat × Int)} (h : Way n f l v p) (hd : 0 ≤ d) (hle : ∀ q ∈ p, d ≤ restOn n f q) : Flow n (changeW n d p f) := by
  refine ⟨by rw [changeW_length]; exact hf.len, fun i hi => ?_⟩
  have hc := hf.cap i hi
  have hil : i < f.length := by rw [hf.len]; exact hi
  by_cases hm : i ∈ p.map (·.1)
  · obtain ⟨⟨i', w⟩, hq, e⟩ := List.mem_map.1 hm
    simp only at e
    subst e
    rw [changeW_mem hil h.nodup hq]
    have h1 := hle _ hq
    rw [restOn_eq hn hi (h.edges _ hq).2.2.1] at h1
    split at h1
    · rename_i hb; rw [if_pos hb]; omega
    · rename_i hb; rw [if_neg hb]; omega
  · rw [changeW_other hil hm]; exact hc

end Go.Proofs.Ytjmklialkjncaaa.Eng
