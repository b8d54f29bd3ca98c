/- Trails and paths of a flow, in plain lists. Own work; no condition. | The reference's paths, walked. Own work; no condition. | The program's paths, walked. Own work; no condition. | What is true of the paths, in plain lists. Own work; no condition. | What the paths come to. Own work; no condition. | The law FlowWays, walked. Own work; no condition. -/
import Derived.Test.YtjmklialkjncaaaFlowWaysM1
import Derived.Test.YtjmklialkjncaaaFlowWaysM2
import Derived.Test.YtjmklialkjncaaaFlowWaysM3
import Derived.Test.YtjmklialkjncaaaFlowWaysM4
import Derived.Test.YtjmklialkjncaaaFlowWaysM5
set_option linter.unusedVariables false
set_option linter.unusedSimpArgs false
namespace Go.Proofs.Ytjmklialkjncaaa.Eng

def curr (n : Net4) (ps : List (Nat × Int)) : Int := match ps.getLast? with
  | some q => q.2
  | none => n.source
def nodesOf (n : Net4) (ps : List (Nat × Int)) : List Int := n.source :: ps.map (·.2)
def nextOf (n : Net4) (ps : List (Nat × Int)) (i : Nat) : Int := otherR (nth n.edges i) (curr n ps)

theorem curr_snoc (n : Net4) (ps : List (Nat × Int)) (q : Nat × Int) : curr n (ps ++ [q]) = q.2 := by unfold curr; simp
theorem nodesOf_snoc (n : Net4) (ps : List (Nat × Int)) (q : Nat × Int) : nodesOf n (ps ++ [q]) = nodesOf n ps ++ [q.2] := by unfold nodesOf; simp
theorem nodesOf_len (n : Net4) (ps : List (Nat × Int)) : (nodesOf n ps).length = ps.length + 1 := by unfold nodesOf; simp
theorem curr_nth (n : Net4) (ps : List (Nat × Int)) : nth (nodesOf n ps) ps.length = curr n ps := by
  rcases List.eq_nil_or_concat ps with rfl | ⟨l, q, rfl⟩
  · rfl
  · rw [List.concat_eq_append, nodesOf_snoc, curr_snoc, List.length_append, List.length_singleton, ← nodesOf_len n l, nth_append_len]
theorem curr_mem (n : Net4) (ps : List (Nat × Int)) : curr n ps ∈ nodesOf n ps := by
  rw [← curr_nth]
  exact nth_mem (by rw [nodesOf_len]; omega)

theorem idxZ_neg {l : List Int} {v : Int} (h : v ∉ l) : idxZ l v = -1 := by
  unfold idxZ
  rw [if_neg]
  intro q
  have := List.findIdx_getElem (w := q)
  have e : v = l[l.findIdx fun x => decide (v = x)] := of_decide_eq_true this
  exact h (e ▸ List.getElem_mem q)

theorem idxZ_pos {l : List Int} {v : Int} (h : v ∈ l) : ∃ k : Nat, idxZ l v = k ∧ k < l.length ∧ nth l k = v := by
  have q : l.findIdx (fun x => decide (v = x)) < l.length := List.findIdx_lt_length_of_exists ⟨v, h, decide_eq_true rfl⟩
  refine ⟨l.findIdx fun x => decide (v = x), by unfold idxZ; rw [if_pos q], q, ?_⟩
  rw [nth_get q]
  exact (of_decide_eq_true (List.findIdx_getElem (w := q))).symm

theorem idxZ_cases (l : List Int) (v : Int) : (idxZ l v = -1 ∧ v ∉ l) ∨ ∃ k : Nat, idxZ l v = k ∧ k < l.length ∧ nth l k = v := by
  by_cases h : v ∈ l
  · exact .inr (idxZ_pos h)
  · exact .inl ⟨idxZ_neg h, h⟩

theorem nodup_nth {l : List Int} (h : l.Nodup) {i j : Nat} (hi : i < l.length) (hj : j < l.length) (he : nth l i = nth l j) : i = j := by
  rw [nth_get hi, nth_get hj] at he
  rcases Nat.lt_trichotomy i j with q | q | q
  · exact absurd he (List.pairwise_iff_getElem.1 h i j hi hj q)
  · exact q
  · exact absurd he.symm (List.pairwise_iff_getElem.1 h j i hj hi q)

theorem idxZ_at {l : List Int} (h : l.Nodup) {k : Nat} (hk : k < l.length) : idxZ l (nth l k) = k := by
  obtain ⟨j, h1, h2, h3⟩ := idxZ_pos (nth_mem hk)
  rw [h1, nodup_nth h h2 hk h3]

/-- A trail from the source goes on until the sink, or until a node comes again. -/
inductive TrTo (n : Net4) (g : List Int) : List (Nat × Int) → List (Nat × Int) → Int → Prop
  | stop {ps : List (Nat × Int)} : curr n ps = n.sink → TrTo n g ps ps (-1)
  | circ {ps : List (Nat × Int)} {i : Nat} : curr n ps ≠ n.sink → leaveI n g (curr n ps) = some i → nextOf n ps i ∈ nodesOf n ps → TrTo n g ps (ps ++ [(i, nextOf n ps i)]) (idxZ (nodesOf n ps) (nextOf n ps i))
  | step {ps ps' : List (Nat × Int)} {i : Nat} {k : Int} : curr n ps ≠ n.sink → leaveI n g (curr n ps) = some i → nextOf n ps i ∉ nodesOf n ps → TrTo n g (ps ++ [(i, nextOf n ps i)]) ps' k → TrTo n g ps ps' k

theorem TrTo.uniq {n : Net4} {g : List Int} {ps p1 p2 : List (Nat × Int)} {k1 k2 : Int} (h : TrTo n g ps p1 k1) : TrTo n g ps p2 k2 → p1 = p2 ∧ k1 = k2 := by
  induction h generalizing p2 k2 with
  | stop h1 =>
    intro h'
    cases h' with
    | stop _ => exact ⟨rfl, rfl⟩
    | circ q _ _ => exact absurd h1 q
    | step q _ _ _ => exact absurd h1 q
  | @circ ps i h1 h2 h3 =>
    intro h'
    cases h' with
    | stop q => exact absurd q h1
    | circ _ q _ =>
      rw [h2] at q
      obtain rfl := Option.some.inj q
      exact ⟨rfl, rfl⟩
    | step _ q q2 _ =>
      rw [h2] at q
      obtain rfl := Option.some.inj q
      exact absurd h3 q2
  | @step ps ps' i k h1 h2 h3 _ ih =>
    intro h'
    cases h' with
    | stop q => exact absurd q h1
    | circ _ q q2 =>
      rw [h2] at q
      obtain rfl := Option.some.inj q
      exact absurd q2 h3
    | step _ q _ q3 =>
      rw [h2] at q
      obtain rfl := Option.some.inj q
      exact ih q3

/-- What goes over an edge to a node. -/
def amtTo (n : Net4) (g : List Int) (q : Nat × Int) : Int := if (nth n.edges q.1).b = q.2 then nth g q.1 else -(nth g q.1)
def leastA (n : Net4) (g : List Int) (x : Int) (p : List (Nat × Int)) : Int := p.foldl (fun m q => min m (amtTo n g q)) x
def minA (n : Net4) (g : List Int) : List (Nat × Int) → Int
  | [] => 0
  | q :: p => leastA n g (amtTo n g q) (q :: p)
def fromK (k : Int) : Nat := (max k 0).toNat

inductive PathsTo (n : Net4) : List Int → List (List Int) → List Int → List (List Int) × List Int → Prop
  | done {g : List Int} {P : List (List Int)} {W : List Int} : leaveI n g n.source = none → PathsTo n g P W (P, W)
  | more {g : List Int} {P : List (List Int)} {W : List Int} {ps : List (Nat × Int)} {k : Int} {r : List (List Int) × List Int} : leaveI n g n.source ≠ none → TrTo n g [] ps k →
      PathsTo n (changeW n (-(minA n g (ps.drop (fromK k)))) (ps.drop (fromK k)) g) (if k < 0 then P ++ [nodesOf n ps] else P) (if k < 0 then W ++ [minA n g (ps.drop (fromK k))] else W) r → PathsTo n g P W r

theorem PathsTo.uniq {n : Net4} {g : List Int} {P : List (List Int)} {W : List Int} {r r' : List (List Int) × List Int} (h : PathsTo n g P W r) : PathsTo n g P W r' → r = r' := by
  induction h with
  | done h1 =>
    intro h'
    cases h' with
    | done _ => rfl
    | more q _ _ => exact absurd h1 q
  | more h1 h2 _ ih =>
    intro h'
    cases h' with
    | done q => exact absurd q h1
    | more _ q2 q3 =>
      obtain ⟨rfl, rfl⟩ := h2.uniq q2
      exact ih q3

/-! ### Flows of which something is left -/
structure Bal (n : Net4) (g : List Int) : Prop where
  len : g.length = n.edges.length
  bnd : ∀ i, i < n.edges.length → -1099511627776 ≤ nth g i ∧ nth g i ≤ 1099511627776
  bal : ∀ v, 0 ≤ v → v < n.nodes → v ≠ n.source → v ≠ n.sink → netOut n g v = 0

theorem FlowOk.bal {n : Net4} (hn : Sound n) {f : List Int} (h : FlowOk n f) : Bal n f := by
  refine ⟨h.1.len, fun i hi => ?_, h.2⟩
  have := h.1.cap i hi
  have := hn.at hi
  omega

theorem goes_leaves {n : Net4} {g : List Int} {v : Int} {i : Nat} (h : goesB n g v i = false) : leaves n v i (nth g i) ≤ 0 := by
  unfold goesB at h
  have h := of_decide_eq_false h
  unfold leaves
  split <;> split <;> omega

/-- Where something comes in, something goes out. -/
theorem leave_exists {n : Net4} (hn : Sound n) {g : List Int} {v : Int} {i : Nat} (hi : i < n.edges.length) (h0 : netOut n g v = 0) (hin : leaves n v i (nth g i) < 0) : ∃ j, leaveI n g v = some j := by
  cases h : leaveI n g v with
  | some j => exact ⟨j, rfl⟩
  | none =>
    exfalso
    have hall := leave_not h
    have := sumTo_tight (g := fun i => leaves n v i (nth g i)) (h := fun _ => 0) (fun j hj => goes_leaves (hall j hj)) (by
      rw [sumTo_zero fun _ _ => rfl]
      exact Int.le_of_eq h0.symm) i hi
    have h2 : leaves n v i (nth g i) = 0 := this
    omega

/-- What is known of a trail. -/
structure Tra (n : Net4) (g : List Int) (ps : List (Nat × Int)) : Prop where
  nodup : (nodesOf n ps).Nodup
  inside : ∀ v ∈ nodesOf n ps, 0 ≤ v ∧ v < n.nodes
  ok : ∀ q ∈ ps, q.1 < n.edges.length ∧ ((nth n.edges q.1).a = q.2 ∨ (nth n.edges q.1).b = q.2) ∧ 0 < amtTo n g q
  dep : ∀ q ∈ ps, ∃ u ∈ nodesOf n ps, u ≠ curr n ps ∧ goesB n g u q.1 = true
  edges : (ps.map (·.1)).Nodup
  cur : ps ≠ [] → curr n ps ≠ n.source ∧ ∃ i, i < n.edges.length ∧ leaves n (curr n ps) i (nth g i) < 0

theorem Tra.nil {n : Net4} (hn : Sound n) (g : List Int) : Tra n g [] :=
  ⟨by simp [nodesOf], fun v hv => (by
    have : v = n.source := by simpa [nodesOf] using hv
    subst this; exact hn.source), fun q hq => (by simp at hq), fun q hq => (by simp at hq), by simp, fun h => absurd rfl h⟩

theorem goes_uniq {n : Net4} (hn : Sound n) {g : List Int} {u v : Int} {i : Nat} (h1 : goesB n g u i = true) (h2 : goesB n g v i = true) : u = v := by
  unfold goesB at h1 h2
  have h1 := of_decide_eq_true h1
  have h2 := of_decide_eq_true h2
  omega

theorem goes_next {n : Net4} (hn : Sound n) {g : List Int} {u : Int} {i : Nat} (hi : i < n.edges.length) (h : goesB n g u i = true) :
    otherR (nth n.edges (i, otherR (nth n.edges i) u).1) (otherR (nth n.edges i) u) = u ∧ ((nth n.edges i).a = otherR (nth n.edges i) u ∨ (nth n.edges i).b = otherR (nth n.edges i) u) ∧ 0 < amtTo n g (i, otherR (nth n.edges i) u) ∧
    0 ≤ otherR (nth n.edges i) u ∧ otherR (nth n.edges i) u < n.nodes ∧ otherR (nth n.edges i) u ≠ u ∧ leaves n (otherR (nth n.edges i) u) i (nth g i) < 0 ∧ arcAt n u.toNat i = ⟨i, otherR (nth n.edges i) u, decide ((nth n.edges i).b = otherR (nth n.edges i) u)⟩ := by
  have he := hn.at hi
  unfold goesB at h
  have h := of_decide_eq_true h
  unfold amtTo otherR leaves arcAt
  by_cases ha : (nth n.edges i).a = u
  · have hb : ¬ (nth n.edges i).b = u := by omega
    have hna : ¬ (nth n.edges i).a = (nth n.edges i).b := by omega
    have ht : (nth n.edges i).a = (u.toNat : Int) := by omega
    simp only [if_pos ha, if_neg hna, if_true, if_pos ht, decide_true]
    refine ⟨ha, by simp, by omega, by omega, by omega, by omega, by omega, by simp⟩
  · have hb : (nth n.edges i).b = u := by omega
    have hnb : ¬ (nth n.edges i).b = (nth n.edges i).a := by omega
    have ht : ¬ (nth n.edges i).a = (u.toNat : Int) := by omega
    simp only [if_neg ha, if_neg hnb, if_true, if_neg ht]
    refine ⟨hb, by simp, by omega, by omega, by omega, by omega, by omega, ?_⟩
    rw [decide_eq_false (by omega)]

theorem Tra.snoc {n : Net4} (hn : Sound n) {g : List Int} {ps : List (Nat × Int)} (h : Tra n g ps) {i : Nat} (hl : leaveI n g (curr n ps) = some i) (hnew : nextOf n ps i ∉ nodesOf n ps) : Tra n g (ps ++ [(i, nextOf n ps i)]) := by
  obtain ⟨hi, hg⟩ := leave_is hl
  obtain ⟨k1, k2, k3, k4, k5, k6, k7, _⟩ := goes_next hn hi hg
  have hmem : ∀ {q : Nat × Int}, q ∈ ps ++ [(i, nextOf n ps i)] → q ∈ ps ∨ q = (i, nextOf n ps i) := fun hq => by
    rcases List.mem_append.1 hq with hq | hq
    · exact .inl hq
    · exact .inr (List.mem_singleton.1 hq)
  refine ⟨?_, fun v hv => ?_, fun q hq => ?_, fun q hq => ?_, ?_, fun _ => ?_⟩
  · rw [nodesOf_snoc, List.nodup_append]
    refine ⟨h.nodup, by simp, fun x hx y hy e => ?_⟩
    rw [List.mem_singleton] at hy
    have e2 : x = nextOf n ps i := e.trans hy
    exact hnew (by rw [← e2]; exact hx)
  · rw [nodesOf_snoc] at hv
    rcases List.mem_append.1 hv with hv | hv
    · exact h.inside v hv
    · rw [List.mem_singleton] at hv
      subst hv
      exact ⟨k4, k5⟩
  · rcases hmem hq with hq | rfl
    · exact h.ok q hq
    · exact ⟨hi, k2, k3⟩
  · rw [nodesOf_snoc, curr_snoc]
    rcases hmem hq with hq | rfl
    · obtain ⟨u, u1, u2, u3⟩ := h.dep q hq
      exact ⟨u, List.mem_append_left _ u1, fun e => hnew (by have e2 : u = nextOf n ps i := e; rw [← e2]; exact u1), u3⟩
    · exact ⟨curr n ps, List.mem_append_left _ (curr_mem n ps), fun e => k6 e.symm, hg⟩
  · rw [List.map_append, List.nodup_append]
    refine ⟨h.edges, by simp, fun x hx y hy e => ?_⟩
    obtain ⟨q, hq, rfl⟩ := List.mem_map.1 hx
    have hy' : y = i := by simpa using hy
    obtain ⟨u, u1, u2, u3⟩ := h.dep q hq
    rw [e, hy'] at u3
    exact u2 (goes_uniq hn u3 hg)
  · rw [curr_snoc]
    refine ⟨fun e => hnew ?_, i, hi, k7⟩
    rw [show nextOf n ps i = n.source from e]
    unfold nodesOf
    exact List.mem_cons_self ..

theorem Tra.more {n : Net4} (hn : Sound n) {g : List Int} (hb : Bal n g) {ps : List (Nat × Int)} (h : Tra n g ps) (hs : leaveI n g n.source ≠ none) (hk : curr n ps ≠ n.sink) : ∃ i, leaveI n g (curr n ps) = some i := by
  by_cases hp : ps = []
  · subst hp
    cases hx : leaveI n g n.source with
    | none => exact absurd hx hs
    | some i => exact ⟨i, hx⟩
  · obtain ⟨c1, i, c2, c3⟩ := h.cur hp
    have hin := h.inside _ (curr_mem n ps)
    exact leave_exists hn c2 (hb.bal _ hin.1 hin.2 c1 hk) c3

/-- What is known of a trail that has come to its end. -/
structure TrEnd (n : Net4) (g : List Int) (ps : List (Nat × Int)) (k : Int) : Prop where
  ok : ∀ q ∈ ps, q.1 < n.edges.length ∧ ((nth n.edges q.1).a = q.2 ∨ (nth n.edges q.1).b = q.2) ∧ 0 < amtTo n g q
  edges : (ps.map (·.1)).Nodup
  short : fromK k < ps.length
  len : ps.length ≤ n.edges.length
  path : k < 0 → curr n ps = n.sink ∧ (nodesOf n ps).Nodup ∧ ∀ v ∈ nodesOf n ps, 0 ≤ v ∧ v < n.nodes
  circle : 0 ≤ k → nth (nodesOf n ps) k.toNat = curr n ps

theorem len_of_nodup : ∀ {m : Nat} {l : List Nat}, l.Nodup → (∀ x ∈ l, x < m) → l.length ≤ m
  | 0, l, _, hl => by
    cases l with
    | nil => exact Nat.le_refl _
    | cons x l => exact absurd (hl x (List.mem_cons_self ..)) (Nat.not_lt_zero _)
  | m + 1, l, h, hl => by
    by_cases hm : m ∈ l
    · have h1 := len_of_nodup (m := m) (h.erase m) (fun x hx => by
        have hx2 := (h.mem_erase_iff).1 hx
        have := hl x hx2.2
        have := hx2.1
        omega)
      rw [List.length_erase_of_mem hm] at h1
      omega
    · have h1 := len_of_nodup (m := m) h (fun x hx => by
        have := hl x hx
        have : x ≠ m := fun e => hm (e ▸ hx)
        omega)
      omega

theorem TrTo.ends {n : Net4} (hn : Sound n) {g : List Int} {ps ps' : List (Nat × Int)} {k : Int} (h : TrTo n g ps ps' k) : Tra n g ps → TrEnd n g ps' k ∧ -1 ≤ k := by
  induction h with
  | @stop ps hc =>
    intro ht
    have hne : ps ≠ [] := fun e => by subst e; exact hn.ne hc
    have hlen : 0 < ps.length := List.length_pos_iff.2 hne
    refine ⟨⟨ht.ok, ht.edges, hlen, ?_, fun _ => ⟨hc, ht.nodup, ht.inside⟩, fun q => by omega⟩, Int.le_refl _⟩
    have := len_of_nodup ht.edges (m := n.edges.length) (fun x hx => by
      obtain ⟨q, hq, rfl⟩ := List.mem_map.1 hx
      exact (ht.ok q hq).1)
    rwa [List.length_map] at this
  | @circ ps i h1 h2 h3 =>
    intro ht
    obtain ⟨hi, hg⟩ := leave_is h2
    obtain ⟨k1, k2, k3, k4, k5, k6, k7, _⟩ := goes_next hn hi hg
    obtain ⟨j, j1, j2, j3⟩ := idxZ_pos h3
    have hjl : j ≤ ps.length := by rw [nodesOf_len] at j2; omega
    have hed : ((ps ++ [(i, nextOf n ps i)]).map (·.1)).Nodup := by
      rw [List.map_append, List.nodup_append]
      refine ⟨ht.edges, by simp, fun x hx y hy e => ?_⟩
      obtain ⟨q, hq, rfl⟩ := List.mem_map.1 hx
      have hy' : y = i := by simpa using hy
      obtain ⟨u, u1, u2, u3⟩ := ht.dep q hq
      rw [e, hy'] at u3
      exact u2 (goes_uniq hn u3 hg)
    have hok : ∀ q ∈ ps ++ [(i, nextOf n ps i)], q.1 < n.edges.length ∧ ((nth n.edges q.1).a = q.2 ∨ (nth n.edges q.1).b = q.2) ∧ 0 < amtTo n g q := fun q hq => by
      rcases List.mem_append.1 hq with hq | hq
      · exact ht.ok q hq
      · rw [List.mem_singleton] at hq
        subst hq
        exact ⟨hi, k2, k3⟩
    refine ⟨⟨hok, hed, ?_, ?_, fun q => by omega, fun _ => ?_⟩, by omega⟩
    · rw [j1]
      unfold fromK
      simp only [List.length_append, List.length_singleton]
      omega
    · have := len_of_nodup hed (m := n.edges.length) (fun x hx => by
        obtain ⟨q, hq, rfl⟩ := List.mem_map.1 hx
        exact (hok q hq).1)
      rwa [List.length_map] at this
    · rw [j1, Int.toNat_natCast, nodesOf_snoc, curr_snoc, nth_append_left j2]
      exact j3
  | step h1 h2 h3 _ ih => exact fun ht => ih (ht.snoc hn h2 h3)

/-! ### The chain of a trail -/
def Chain (n : Net4) : Int → List (Nat × Int) → Int → Prop
  | u, [], w => u = w
  | u, q :: l, w => q.1 < n.edges.length ∧ ((nth n.edges q.1).a = q.2 ∨ (nth n.edges q.1).b = q.2) ∧ otherR (nth n.edges q.1) q.2 = u ∧ Chain n q.2 l w

theorem Chain.snoc {n : Net4} {q : Nat × Int} : ∀ {l : List (Nat × Int)} {u w : Int}, Chain n u l w → q.1 < n.edges.length → ((nth n.edges q.1).a = q.2 ∨ (nth n.edges q.1).b = q.2) → otherR (nth n.edges q.1) q.2 = w → Chain n u (l ++ [q]) q.2
  | [], u, w, h, h1, h2, h3 => ⟨h1, h2, by rw [h3]; exact (show u = w from h).symm, rfl⟩
  | p :: l, u, w, ⟨a1, a2, a3, a4⟩, h1, h2, h3 => ⟨a1, a2, a3, Chain.snoc a4 h1 h2 h3⟩

theorem Chain.drop {n : Net4} : ∀ {l : List (Nat × Int)} {u w : Int} (k : Nat), k ≤ l.length → Chain n u l w → Chain n (nth (u :: l.map (·.2)) k) (l.drop k) w
  | l, u, w, 0, _, h => h
  | q :: l, u, w, k + 1, hk, ⟨_, _, _, h⟩ => Chain.drop k (by simpa using hk) h

theorem TrTo.chain {n : Net4} (hn : Sound n) {g : List Int} {ps ps' : List (Nat × Int)} {k : Int} (h : TrTo n g ps ps' k) : Chain n n.source ps (curr n ps) → Chain n n.source ps' (curr n ps') := by
  induction h with
  | stop _ => exact id
  | @circ ps i h1 h2 h3 =>
    intro hc
    obtain ⟨hi, hg⟩ := leave_is h2
    obtain ⟨k1, k2, _⟩ := goes_next hn hi hg
    rw [curr_snoc]
    exact Chain.snoc hc hi k2 k1
  | @step ps ps' i k h1 h2 h3 _ ih =>
    intro hc
    obtain ⟨hi, hg⟩ := leave_is h2
    obtain ⟨k1, k2, _⟩ := goes_next hn hi hg
    refine ih ?_
    rw [curr_snoc]
    exact Chain.snoc hc hi k2 k1

theorem chain_netOut {n : Net4} (hn : Sound n) {d : Int} (x : Int) : ∀ {l : List (Nat × Int)} {u w : Int} (f : List Int), Chain n u l w → f.length = n.edges.length →
    netOut n (changeW n d l f) x = netOut n f x + ((if u = x then d else 0) - (if w = x then d else 0))
  | [], u, w, f, h, _ => by
    have e : u = w := h
    subst e
    show netOut n f x = _
    omega
  | q :: l, u, w, f, ⟨h1, h2, h3, h4⟩, hf => by
    show netOut n (changeW n d l (changeR n f q.1 q.2 d)) x = _
    rw [chain_netOut hn x (changeR n f q.1 q.2 d) h4 (by rw [changeR_length]; exact hf), netOut_change hn hf h1 h2, h3]
    generalize (if u = x then d else 0) = A1
    generalize (if q.2 = x then d else 0) = A2
    generalize (if w = x then d else 0) = A3
    omega

/-! ### The least amount -/
theorem leastA_cons {n : Net4} {f : List Int} {x : Int} {q : Nat × Int} {p : List (Nat × Int)} : leastA n f x (q :: p) = leastA n f (min x (amtTo n f q)) p := rfl

theorem leastA_le {n : Net4} {f : List Int} : ∀ (p : List (Nat × Int)) (x : Int), leastA n f x p ≤ x ∧ ∀ q ∈ p, leastA n f x p ≤ amtTo n f q
  | [], x => ⟨Int.le_refl _, fun q hq => by simp at hq⟩
  | q :: p, x => by
    obtain ⟨h1, h2⟩ := leastA_le (n := n) (f := f) p (min x (amtTo n f q))
    rw [leastA_cons]
    refine ⟨by omega, fun q' hq => ?_⟩
    rcases List.mem_cons.1 hq with rfl | hq
    · omega
    · exact h2 q' hq

theorem leastA_pos {n : Net4} {f : List Int} : ∀ (p : List (Nat × Int)) (x : Int), 0 < x → (∀ q ∈ p, 0 < amtTo n f q) → 0 < leastA n f x p
  | [], x, hx, _ => hx
  | q :: p, x, hx, h => leastA_pos p (min x (amtTo n f q)) (by have := h q (List.mem_cons_self ..); omega) fun q' hq => h q' (List.mem_cons_of_mem _ hq)

theorem minA_ok {n : Net4} {f : List Int} {p : List (Nat × Int)} (hp : p ≠ []) (h : ∀ q ∈ p, 0 < amtTo n f q) : 0 < minA n f p ∧ ∀ q ∈ p, minA n f p ≤ amtTo n f q := by
  cases p with
  | nil => exact absurd rfl hp
  | cons q p => exact ⟨leastA_pos _ _ (h q (List.mem_cons_self ..)) h, (leastA_le (q :: p) _).2⟩

def lrA (n : Net4) (f : List Int) (x : Int) (p : List (Nat × Int)) : Int := if x < 0 then minA n f p else leastA n f x p

theorem lrA_step1 {n : Net4} {f : List Int} {x : Int} {q : Nat × Int} {p : List (Nat × Int)} (hr : 0 < amtTo n f q) (h : x < 0 ∨ amtTo n f q < x) : lrA n f x (q :: p) = lrA n f (amtTo n f q) p := by
  unfold lrA
  rw [if_neg (show ¬ amtTo n f q < 0 by omega)]
  by_cases hx : x < 0
  · rw [if_pos hx]
    show leastA n f (amtTo n f q) (q :: p) = _
    rw [leastA_cons, Int.min_self]
  · rw [if_neg hx, leastA_cons, show min x (amtTo n f q) = amtTo n f q by omega]

theorem lrA_step2 {n : Net4} {f : List Int} {x : Int} {q : Nat × Int} {p : List (Nat × Int)} (h1 : ¬ x < 0) (h2 : ¬ amtTo n f q < x) : lrA n f x (q :: p) = lrA n f x p := by
  unfold lrA
  rw [if_neg h1, if_neg h1, leastA_cons, show min x (amtTo n f q) = x by omega]

theorem lrA_end {n : Net4} {f : List Int} {x d : Int} (h : lrA n f x [] = d) (hd : 0 < d) : x = d := by
  unfold lrA at h
  split at h
  · have : minA n f [] = 0 := rfl
    omega
  · exact h

/-! ### What a round changes -/
def absSum (n : Net4) (g : List Int) : Int := sumTo (fun i => max (nth g i) (-(nth g i))) n.edges.length

theorem absSum_in {n : Net4} {g : List Int} (hb : Bal n g) : 0 ≤ absSum n g := by
  unfold absSum
  have : ∀ m, 0 ≤ sumTo (fun i => max (nth g i) (-(nth g i))) m := by
    intro m
    induction m with
    | zero => exact Int.le_refl _
    | succ m ih =>
      show 0 ≤ sumTo _ m + max (nth g m) (-(nth g m))
      omega
  exact this _

theorem change_abs {n : Net4} {f : List Int} (hf : f.length = n.edges.length) {q : Nat × Int} (hq : q.1 < n.edges.length) {d : Int} (hd : 0 ≤ d) (hle : d ≤ amtTo n f q) :
    absSum n (changeR n f q.1 q.2 (-d)) = absSum n f + -d ∧ (∀ j, j < n.edges.length → -1099511627776 ≤ nth f j ∧ nth f j ≤ 1099511627776 → -1099511627776 ≤ nth (changeR n f q.1 q.2 (-d)) j ∧ nth (changeR n f q.1 q.2 (-d)) j ≤ 1099511627776) := by
  unfold amtTo at hle
  constructor
  · refine sumTo_one hq (fun j hj hne => ?_) ?_
    · unfold changeR
      rw [nth_set (by omega) (by omega), if_neg (fun e => hne e.symm)]
    · unfold changeR
      rw [nth_set (by omega) (by omega), if_pos rfl]
      split at hle
      · rename_i hb; rw [if_pos hb]; omega
      · rename_i hb; rw [if_neg hb]; omega
  · intro j hj hb2
    unfold changeR
    rw [nth_set (by omega) (by omega)]
    by_cases e : q.1 = j
    · rw [if_pos e]
      subst e
      split at hle
      · rename_i hb; rw [if_pos hb]; omega
      · rename_i hb; rw [if_neg hb]; omega
    · rw [if_neg e]; exact hb2

theorem amt_other {n : Net4} {f : List Int} (hf : f.length = n.edges.length) {q p : Nat × Int} (hq : q.1 < n.edges.length) (hp : p.1 < n.edges.length) (hne : q.1 ≠ p.1) (d : Int) : amtTo n (changeR n f q.1 q.2 d) p = amtTo n f p := by
  unfold amtTo changeR
  rw [nth_set (by omega) (by omega), if_neg hne]

theorem push_all {n : Net4} {d : Int} (hd : 0 ≤ d) : ∀ (l : List (Nat × Int)) (f : List Int), f.length = n.edges.length → (l.map (·.1)).Nodup → (∀ q ∈ l, q.1 < n.edges.length ∧ d ≤ amtTo n f q) → (∀ j, j < n.edges.length → -1099511627776 ≤ nth f j ∧ nth f j ≤ 1099511627776) →
    absSum n (changeW n (-d) l f) = absSum n f - d * l.length ∧ ∀ j, j < n.edges.length → -1099511627776 ≤ nth (changeW n (-d) l f) j ∧ nth (changeW n (-d) l f) j ≤ 1099511627776
  | [], f, _, _, _, hb => ⟨by show absSum n f = absSum n f - d * 0; omega, hb⟩
  | q :: l, f, hf, hnd, hq, hb => by
    obtain ⟨h1, h2⟩ := List.nodup_cons.1 hnd
    obtain ⟨q1, q2⟩ := hq q (List.mem_cons_self ..)
    obtain ⟨c1, c2⟩ := change_abs hf q1 hd q2
    obtain ⟨r1, r2⟩ := push_all hd l (changeR n f q.1 q.2 (-d)) (by rw [changeR_length]; exact hf) h2 (fun p hp => by
      obtain ⟨p1, p2⟩ := hq p (List.mem_cons_of_mem _ hp)
      refine ⟨p1, ?_⟩
      rw [amt_other hf q1 p1 (fun e => h1 (List.mem_map.2 ⟨p, hp, e.symm⟩))]
      exact p2) (fun j hj => c2 j hj (hb j hj))
    refine ⟨?_, r2⟩
    show absSum n (changeW n (-d) l (changeR n f q.1 q.2 (-d))) = _
    rw [r1, c1, List.length_cons]
    have : d * ((l.length + 1 : Nat) : Int) = d * l.length + d := by rw [Int.natCast_succ, Int.mul_add, Int.mul_one]
    omega

/-- A round: what is left is balanced, and less. -/
theorem round_ok {n : Net4} (hn : Sound n) {g : List Int} (hb : Bal n g) {ps : List (Nat × Int)} {k : Int} (ht : TrTo n g [] ps k) :
    0 < minA n g (ps.drop (fromK k)) ∧ minA n g (ps.drop (fromK k)) ≤ 1099511627776 ∧ (∀ q ∈ ps.drop (fromK k), minA n g (ps.drop (fromK k)) ≤ amtTo n g q) ∧ Bal n (changeW n (-(minA n g (ps.drop (fromK k)))) (ps.drop (fromK k)) g) ∧
    absSum n (changeW n (-(minA n g (ps.drop (fromK k)))) (ps.drop (fromK k)) g) < absSum n g ∧
    netOut n (changeW n (-(minA n g (ps.drop (fromK k)))) (ps.drop (fromK k)) g) n.source = netOut n g n.source - (if k < 0 then minA n g (ps.drop (fromK k)) else 0) := by
  obtain ⟨he, hk⟩ := ht.ends hn (Tra.nil hn g)
  have hch := ht.chain hn rfl
  have hne : ps.drop (fromK k) ≠ [] := fun e => by
    have := congrArg List.length e
    rw [List.length_drop] at this
    have := he.short
    simp at *
    omega
  have hmem : ∀ q ∈ ps.drop (fromK k), q ∈ ps := fun q hq => List.mem_of_mem_drop hq
  obtain ⟨m1, m2⟩ := minA_ok (n := n) (f := g) hne (fun q hq => (he.ok q (hmem q hq)).2.2)
  have hcd := Chain.drop (fromK k) (Nat.le_of_lt he.short) hch
  have hst : nth (n.source :: ps.map (·.2)) (fromK k) = if k < 0 then n.source else curr n ps := by
    by_cases q : k < 0
    · rw [if_pos q]
      unfold fromK
      rw [show (max k 0).toNat = 0 by omega]
      rfl
    · rw [if_neg q, ← he.circle (by omega)]
      unfold fromK nodesOf
      rw [show (max k 0).toNat = k.toNat by omega]
  rw [hst] at hcd
  have hnd : ((ps.drop (fromK k)).map (·.1)).Nodup := by
    rw [List.map_drop]
    exact (List.drop_sublist _ _).nodup he.edges
  obtain ⟨p1, p2⟩ := push_all (n := n) (d := minA n g (ps.drop (fromK k))) (Int.le_of_lt m1) (ps.drop (fromK k)) g hb.len hnd (fun q hq => ⟨(he.ok q (hmem q hq)).1, m2 q hq⟩) hb.bnd
  have hup : minA n g (ps.drop (fromK k)) ≤ 1099511627776 := by
    obtain ⟨q, hq⟩ := List.exists_mem_of_ne_nil _ hne
    have h1 := m2 q hq
    have h2 := hb.bnd q.1 (he.ok q (hmem q hq)).1
    unfold amtTo at h1
    split at h1 <;> omega
  have hns : n.source ≠ n.sink := hn.ne
  refine ⟨m1, hup, m2, ⟨by rw [changeW_length]; exact hb.len, p2, fun v v0 v1 vs vk => ?_⟩, ?_, ?_⟩
  · rw [chain_netOut hn v g hcd hb.len, hb.bal v v0 v1 vs vk]
    by_cases q : k < 0
    · rw [if_pos q, (he.path q).1, if_neg (fun e => vs e.symm), if_neg (fun e => vk e.symm)]
      rfl
    · rw [if_neg q]; omega
  · rw [p1]
    have hl : 0 < (ps.drop (fromK k)).length := List.length_pos_iff.2 hne
    have : 0 < minA n g (ps.drop (fromK k)) * ((ps.drop (fromK k)).length : Int) := Int.mul_pos m1 (by omega)
    omega
  · rw [chain_netOut hn n.source g hcd hb.len]
    by_cases q : k < 0
    · rw [if_pos q, if_pos q, if_pos rfl, (he.path q).1, if_neg (fun e => hns e.symm)]
      omega
    · rw [if_neg q, if_neg q]; omega

/-! ### How many edges still carry something -/
def nzSum (n : Net4) (g : List Int) : Int := sumTo (fun i => if nth g i = 0 then 0 else 1) n.edges.length

theorem nz_in (n : Net4) (g : List Int) : 0 ≤ nzSum n g ∧ nzSum n g ≤ n.edges.length := by
  have : ∀ m, 0 ≤ sumTo (fun i => if nth g i = 0 then (0 : Int) else 1) m ∧ sumTo (fun i => if nth g i = 0 then (0 : Int) else 1) m ≤ m := by
    intro m
    induction m with
    | zero => exact ⟨Int.le_refl _, Int.le_refl _⟩
    | succ m ih =>
      show 0 ≤ sumTo _ m + (if nth g m = 0 then 0 else 1) ∧ sumTo _ m + (if nth g m = 0 then 0 else 1) ≤ ((m + 1 : Nat) : Int)
      split <;> omega
  exact this _

theorem leastA_att {n : Net4} {f : List Int} : ∀ (p : List (Nat × Int)) (x : Int), leastA n f x p = x ∨ ∃ q ∈ p, leastA n f x p = amtTo n f q
  | [], x => .inl rfl
  | q :: p, x => by
    rw [leastA_cons]
    rcases leastA_att (n := n) (f := f) p (min x (amtTo n f q)) with h | ⟨q', h1, h2⟩
    · by_cases hx : x ≤ amtTo n f q
      · left; rw [h]; omega
      · right; exact ⟨q, List.mem_cons_self .., by rw [h]; omega⟩
    · right; exact ⟨q', List.mem_cons_of_mem _ h1, h2⟩

theorem minA_att {n : Net4} {f : List Int} {p : List (Nat × Int)} (hp : p ≠ []) : ∃ q ∈ p, minA n f p = amtTo n f q := by
  cases p with
  | nil => exact absurd rfl hp
  | cons q p =>
    rcases leastA_att (n := n) (f := f) (q :: p) (amtTo n f q) with h | h
    · exact ⟨q, List.mem_cons_self .., h⟩
    · exact h

theorem nz_round {n : Net4} (hn : Sound n) {g : List Int} (hb : Bal n g) {ps : List (Nat × Int)} {k : Int} (ht : TrTo n g [] ps k) :
    nzSum n (changeW n (-(minA n g (ps.drop (fromK k)))) (ps.drop (fromK k)) g) < nzSum n g := by
  obtain ⟨he, hk⟩ := ht.ends hn (Tra.nil hn g)
  have hne : ps.drop (fromK k) ≠ [] := fun e => by
    have := congrArg List.length e
    rw [List.length_drop] at this
    have := he.short
    simp at *
    omega
  have hmem : ∀ q ∈ ps.drop (fromK k), q ∈ ps := fun q hq => List.mem_of_mem_drop hq
  have hnd : ((ps.drop (fromK k)).map (·.1)).Nodup := by
    rw [List.map_drop]
    exact (List.drop_sublist _ _).nodup he.edges
  obtain ⟨⟨i, w⟩, hq, hqa⟩ := minA_att (n := n) (f := g) hne
  have hok := he.ok _ (hmem _ hq)
  have hgl := hb.len
  have hle : ∀ j, j < n.edges.length → (if nth (changeW n (-(minA n g (ps.drop (fromK k)))) (ps.drop (fromK k)) g) j = 0 then (0 : Int) else 1) ≤ (if nth g j = 0 then 0 else 1) := by
    intro j hj
    by_cases hjm : j ∈ (ps.drop (fromK k)).map (·.1)
    · obtain ⟨⟨j', w'⟩, hq', e⟩ := List.mem_map.1 hjm
      simp only at e
      subst e
      have h3 := (he.ok _ (hmem _ hq')).2.2
      unfold amtTo at h3
      rw [if_neg (show ¬ nth g j' = 0 from fun q => by simp only [q] at h3; split at h3 <;> omega)]
      split <;> omega
    · rw [changeW_other (by omega) hjm]
      exact Int.le_refl _
  have hz : nth (changeW n (-(minA n g (ps.drop (fromK k)))) (ps.drop (fromK k)) g) i = 0 := by
    rw [changeW_mem (by have := hok.1; omega) hnd hq, hqa]
    unfold amtTo
    by_cases hbw : (nth n.edges i).b = w
    · simp only [hbw, if_true]; omega
    · simp only [hbw, if_false]; omega
  have hgi : nth g i ≠ 0 := fun q => by
    have h3 := hok.2.2
    unfold amtTo at h3
    simp only [q] at h3
    split at h3 <;> omega
  rcases Int.lt_or_le (nzSum n (changeW n (-(minA n g (ps.drop (fromK k)))) (ps.drop (fromK k)) g)) (nzSum n g) with q | q
  · exact q
  · have := sumTo_tight hle q i hok.1
    rw [if_pos hz, if_neg hgi] at this
    cases this

end Go.Proofs.Ytjmklialkjncaaa.Eng

set_option linter.unusedVariables false
set_option linter.unusedSimpArgs false
namespace Go.Proofs.Ytjmklialkjncaaa.Eng

theorem St.via {x : Cx} {L : Tmps} {O O' : Objs} {s : ASt} (hs : St x L O s) (hO : ∀ h, Sat h O → Sat h O') : St x L O' s := ⟨hs.m, hs.t, hO _ hs.sat, hs.old⟩

theorem St.eqv {x : Cx} {L : Tmps} {O O' : Objs} {s : ASt} (hs : St x L O s) (e : O = O') : St x L O' s := e ▸ hs

theorem idx_take1 {l : List Int} (h : l.Nodup) {j : Nat} (hj : j < l.length) {w : Int} (he : nth l j = w) : idxZ (l.take (j + 1)) w = j := by
  have h1 : (l.take (j + 1)).Nodup := (List.take_sublist _ _).nodup h
  have h2 : j < (l.take (j + 1)).length := by rw [List.length_take]; omega
  have h3 : nth (l.take (j + 1)) j = w := by
    rw [← he, nth_get h2, nth_get hj, List.getElem_take]
  rw [← h3]
  exact idxZ_at h1 h2

theorem idx_take2 {l : List Int} (h : l.Nodup) {j : Nat} (hj : j < l.length) {w : Int} (he : nth l j ≠ w) : idxZ (l.take (j + 1)) w = idxZ (l.take j) w := by
  have h1 : (l.take (j + 1)).Nodup := (List.take_sublist _ _).nodup h
  rcases idxZ_cases (l.take j) w with ⟨e, hn⟩ | ⟨k, e, k1, k2⟩
  · rw [e]
    refine idxZ_neg fun hm => ?_
    rw [take_succ_nth hj] at hm
    rcases List.mem_append.1 hm with hm | hm
    · exact hn hm
    · rw [List.mem_singleton] at hm
      exact he hm.symm
  · have hk : k < (l.take (j + 1)).length := by rw [List.length_take] at k1 ⊢; omega
    have e2 : nth (l.take (j + 1)) k = w := by
      rw [← k2, take_succ_nth hj, nth_append_left k1]
    rw [e, ← e2]
    exact idxZ_at h1 hk

theorem amt_max {n : Net4} {g : List Int} {q : Nat × Int} (h : 0 < amtTo n g q) : max (nth g q.1) (-(nth g q.1)) = amtTo n g q := by
  unfold amtTo at h ⊢
  split at h
  · rename_i hb; rw [if_pos hb]; omega
  · rename_i hb; rw [if_neg hb]; omega

/-- The rows of the paths lie in the memory. -/
structure PathMem (P : List (List Int)) (PL : List (RowP Int)) (Q : Objs) : Prop where
  is : PL.map (·.l) = P
  row : ∀ p ∈ PL, p.n = p.l.length ∧ ∃ b, p.a = some ⟨b, 0, none⟩ ∧ Knows Q b ⟨1, false, p.l.map I⟩

theorem PathMem.rowy {P : List (List Int)} {PL : List (RowP Int)} {Q : Objs} (h : PathMem P PL Q) {p : RowP Int} (hp : p ∈ PL) : p.n = p.l.length ∧ Rowy Q 1 p.a p.l.length (p.l.map I) ∧ p.a ≠ none := by
  obtain ⟨h1, b, h2, h3⟩ := h.row p hp
  refine ⟨h1, .inr ⟨b, 0, _, h2, h3, rfl, ?_, ?_⟩, by rw [h2]; simp⟩
  · show 0 + p.l.length * 1 ≤ (p.l.map I).length
    rw [List.length_map]; omega
  · show ((p.l.map I).drop 0).take (p.l.length * 1) = p.l.map I
    rw [List.drop_zero, List.take_of_length_le (by rw [List.length_map]; omega)]

theorem PathMem.src {P : List (List Int)} {PL : List (RowP Int)} {Q : Objs} (h : PathMem P PL Q) (p : RowP Int) (hp : p ∈ PL) : p.n = p.l.length ∧ Src Q 1 (.slice p.a p.n p.c) p.n (p.l.map I) := by
  obtain ⟨h1, h2, h3⟩ := h.rowy hp
  exact ⟨h1, by rw [h1]; exact h2.src fun q => absurd q h3⟩

def PathsOut (n : Net4) (f : List Int) (O : Objs) (v : Value) (O' : Objs) : Prop := ∃ x e, ValR n f x e ∧ (e ≠ 0 → v = .tuple #[.slice none 0 0, .slice none 0 0, I e] ∧ O' = O) ∧
  (e = 0 → ∃ (r : List (List Int) × List Int) (PL : List (RowP Int)) (Q : Objs) (aP : Option Addr) (cP : Nat) (GP : Objs) (aW : Option Addr) (cW : Nat) (GW : Objs), PathsTo n f [] [] r ∧ PathMem r.1 PL Q ∧ Grow 1 aP PL.length cP (PL.map encR) GP ∧ Grow 1 aW r.2.length cW (r.2.map I) GW ∧
    PL.length ≤ 1000000000 ∧ v = .tuple #[.slice aP PL.length cP, .slice aW r.2.length cW, I 0] ∧ O' = GP ++ (GW ++ (Q ++ O)))

/-- How the changes of a round have come. -/
structure Chg2 (n : Net4) (g : List Int) (d : Int) (l0 l : List (Nat × Int)) (g' : List Int) : Prop where
  len : g'.length = g.length
  goal : changeW n (-d) l g' = changeW n (-d) l0 g
  same : ∀ q ∈ l, nth g' q.1 = nth g q.1
  nd : (l.map (·.1)).Nodup

theorem Chg2.next {n : Net4} {g g' : List Int} {d : Int} {l0 l : List (Nat × Int)} {q : Nat × Int} (hg : g.length = n.edges.length) (hq : ∀ p ∈ q :: l, p.1 < n.edges.length) (h : Chg2 n g d l0 (q :: l) g') : Chg2 n g d l0 l (changeR n g' q.1 q.2 (-d)) := by
  have hnd := List.nodup_cons.1 h.nd
  have hl := h.len
  refine ⟨by rw [changeR_length, h.len], h.goal, fun p hp => ?_, hnd.2⟩
  rw [← h.same p (List.mem_cons_of_mem _ hp)]
  have hp1 := hq p (List.mem_cons_of_mem _ hp)
  have hq1 := hq q (List.mem_cons_self ..)
  unfold changeR
  rw [nth_set (by omega) (by omega), if_neg]
  exact fun e => hnd.1 (List.mem_map.2 ⟨p, hp, e.symm⟩)

theorem drop_nth {α : Type} [Inhabited α] {l : List α} {k : Nat} (h : k < l.length) : l.drop k = nth l k :: l.drop (k + 1) := by
  rw [List.drop_eq_getElem_cons h, nth_get h]

theorem abs_lim {n : Net4} (hn : Sound n) {f : List Int} (hf : Bal n f) : absSum n f ≤ 9007199254740992 := by
  have h := sumTo_le (g := fun i => max (nth f i) (-(nth f i))) (b := 1099511627776) (m := n.edges.length) fun i hi => by
    have := hf.bnd i hi
    omega
  have h2 := hn.len
  unfold absSum
  omega

theorem refPaths_ok (O : Objs) (n : Net4) (f : List Int) (a af : Option Addr) (c cf : Nat) (hlen : n.edges.length ≤ 1000) (hl : Edges O n a c) (hf : Src O 1 (.slice af f.length cf) f.length (f.map I)) :
    Spec Try.prog false 31 #[netV n a c, .slice af f.length cf] O (PathsOut n f O) := by
  refine Spec.enter (args := [_, _]) (m := 152) Try.func31 rfl rfl (by decide +kernel) fun h0 => ?_
  refine WX.seq ?_
  refine WX.region rfl ?_
  refine WXL.box (c := [_, _, _, _]) Met.none rfl rfl rfl (fun b2 => ?_)
  refine WXL.assign Met.none rfl ?_
  refine WXL.assign Met.none rfl ?_
  refine WXL.assign Met.none rfl ?_
  refine WXL.nil ?_
  refine Fin.then_normal ?_
  refine WX.seq ?_
  refine WX.region rfl ?_
  refine WXL.ldN (vs := [_, _, _, _]) Met.none rfl agg25 sz25 ?_
  refine WXL.move Met.none rfl ?_
  refine WXL.cl (O1 := _) Met.none rfl (fnOk_of Try.func24 (by decide +kernel)) rfl (fun _ h => h) (refValue_ok _ n f a af c cf (by omega) src_ src_) (fun v O' hp => ?_)
  obtain ⟨x0, ev, rfl, hv, rfl⟩ := hp
  refine WXL.move Met.none rfl ?_
  refine WXL.extract Met.none rfl rfl ?_
  refine WXL.extract Met.none rfl rfl ?_
  refine WXL.assign Met.none rfl ?_
  refine WXL.assign Met.none rfl ?_
  refine WXL.nil ?_
  refine Fin.then_normal ?_
  refine WX.seq ?_
  refine WX.seq ?_
  refine WX.region rfl ?_
  refine WXL.move Met.none rfl ?_
  refine WXL.bin Met.none rfl rfl rfl ?_
  refine WXL.nil ?_
  refine Fin.then_normal ?_
  refine WX.cond rfl (fun hc0 => ?_) (fun hc0 => ?_)
  · try simp only [cnd] at hc0
    refine WX.seq ?_
    refine WX.region rfl ?_
    refine WXL.move Met.none rfl ?_
    refine WXL.assign Met.none rfl ?_
    refine WXL.assign Met.none rfl ?_
    refine WXL.assign Met.none rfl ?_
    refine WXL.nil ?_
    refine Fin.then_normal ?_
    refine WX.ret ?_
    refine Fin.then_ret ?_
    first
    | exact Fin.result (O' := O) (.inr rfl) rfl rfl drop_ ⟨x0, ev, hv, fun _ => ⟨rfl, rfl⟩, fun q => absurd q hc0⟩
    | (have hno : leaveI n g n.source = none := by
         cases hx : leaveI n g n.source with
         | none => rfl
         | some i => unfold leaveZ at hc1; rw [hx] at hc1; simp only at hc1; omega
       exact Fin.result (O' := GP ++ (GW ++ (Q ++ O))) (.inr rfl) rfl rfl (fun _ hs => hs.tail.app_right) ⟨x0, 0, hv, fun q => absurd rfl q, fun _ => ⟨(PL.map (·.l), W), PL, Q, aP, cP, GP, aW, cW, GW, hgoal _ (.done hno), hPM, hGP, hGW, by omega, rfl, rfl⟩⟩)
  · try simp only [cnd] at hc0
    refine WX.skip ?_
    refine Fin.then_normal ?_
    refine WX.seq ?_
    have hk0 : ev = 0 := by omega
    subst hk0
    obtain ⟨hn, hfo, hx⟩ := hv.ok
    have hbal := hfo.bal hn
    have hfl := hbal.len
    have hlim := nz_in n f
    have hns := hn.source
    have hnk := hn.sink
    refine WX.region rfl ?_
    refine WXL.assign Met.none rfl ?_
    refine WXL.nil ?_
    refine Fin.then_normal ?_
    refine WX.seq ?_
    refine WX.region rfl ?_
    refine WXL.move Met.none rfl ?_
    refine WXL.move Met.none rfl ?_
    refine WXL.apG [_] Met.none rfl rfl isrow22 elem22 sz3 by3 zero3 src_ (fun a34 c34 G34 hG34 => ?_) (hm := (by simp)) (hg := Grow.nil)
    rw [Nat.zero_add f.length] at hG34
    rw [Nat.zero_add f.length]
    refine WXL.assign Met.none rfl ?_
    refine WXL.nil ?_
    refine Fin.then_normal ?_
    refine WX.seq ?_
    refine WX.region rfl ?_
    refine WXL.assign Met.none rfl ?_
    refine WXL.nil ?_
    refine Fin.then_normal ?_
    refine WX.seq ?_
    refine WX.region rfl ?_
    refine WXL.assign Met.none rfl ?_
    refine WXL.nil ?_
    refine Fin.then_normal ?_
    refine WX.seq ?_
    refine WX.block ?_
    refine WX.loop (fun q : List Int × Objs × List (RowP Int) × Objs × (Option Addr × Nat × Objs) × List Int × (Option Addr × Nat × Objs) × Nat => [(2, Ptr b2 0), (9, .slice a34 q.1.length c34), (10, .slice q.2.2.2.2.1.1 q.2.2.1.length q.2.2.2.2.1.2.1), (11, .slice q.2.2.2.2.2.2.1.1 q.2.2.2.2.2.1.length q.2.2.2.2.2.2.1.2.1)]) (fun q => (b2, ⟨0, false, [I n.nodes, I n.source, I n.sink, .slice a n.edges.length c]⟩) :: (q.2.1 ++ (q.2.2.2.2.1.2.2 ++ (q.2.2.2.2.2.2.1.2.2 ++ (q.2.2.2.1 ++ O))))) (fun q => Grow 1 a34 q.1.length c34 (q.1.map I) q.2.1 ∧ Bal n q.1 ∧ (∀ r, PathsTo n q.1 (q.2.2.1.map (·.l)) q.2.2.2.2.2.1 r → PathsTo n f [] [] r) ∧ PathMem (q.2.2.1.map (·.l)) q.2.2.1 q.2.2.2.1 ∧ Grow 1 q.2.2.2.2.1.1 q.2.2.1.length q.2.2.2.2.1.2.1 (q.2.2.1.map encR) q.2.2.2.2.1.2.2 ∧ Grow 1 q.2.2.2.2.2.2.1.1 q.2.2.2.2.2.1.length q.2.2.2.2.2.2.1.2.1 (q.2.2.2.2.2.1.map I) q.2.2.2.2.2.2.1.2.2 ∧ q.2.2.1.length + (nzSum n q.1).toNat ≤ q.2.2.2.2.2.2.2 ∧ q.2.2.2.2.2.1.length = q.2.2.1.length ∧ q.2.2.2.2.2.2.2 ≤ n.edges.length) (fun q => (nzSum n q.1).toNat) (f, G34, [], [], (none, 0, []), [], (none, 0, []), n.edges.length) ⟨by simpa using hG34, hbal, fun r hr => hr, ⟨rfl, fun p hp => by simp at hp⟩, .nil, .nil, by simp; omega, rfl, Nat.le_refl _⟩ ?_ (fun q hq => ?_)
    · exact fun s hs => hs.tl [0] 1 (hO := by simp only [List.nil_append]; exact rfl)
    obtain ⟨g, Gg, PL, Q, ⟨aP, cP, GP⟩, W, ⟨aW, cW, GW⟩, lim⟩ := q
    obtain ⟨hGg, hB, hgoal, hPM, hGP, hGW, hcnt, hWl, hlim2⟩ := hq
    simp only at hGg hB hgoal hPM hGP hGW hcnt hWl hlim2
    dsimp only
    have hgl := hB.len
    have hab := nz_in n g
    refine WX.seq ?_
    refine WX.seq ?_
    refine WX.region rfl ?_
    refine WXL.ldN (vs := [_, _, _, _]) Met.none rfl agg25 sz25 ?_
    refine WXL.move Met.none rfl ?_
    refine WXL.fieldAddr (off' := 1) Met.none rfl Try.underlying25 rfl sz3 rfl ?_
    first | refine WXL.ld Met.none rfl agg3 ?_ | refine WXL.ldS Met.none rfl agg3 ?_
    refine WXL.cl (O1 := _) Met.none rfl (fnOk_of Try.func54 (by decide +kernel)) rfl (fun _ h => h) (refLeave_ok _ n g n.source a a34 c c34 (by omega) hgl src_ src_) (fun v O' hp => ?_)
    obtain ⟨rfl, hO⟩ := hp
    subst O'
    refine WXL.bin Met.none rfl rfl rfl ?_
    refine WXL.nil ?_
    refine Fin.then_normal ?_
    refine WX.cond rfl (fun hc1 => ?_) (fun hc1 => ?_)
    · try simp only [cnd] at hc1
      refine WX.skip ?_
      refine Fin.then_normal ?_
      refine WX.block ?_
      refine WX.seq ?_
      have hs : leaveI n g n.source ≠ none := fun e => by unfold leaveZ at hc1; rw [e] at hc1; simp only at hc1; omega
      refine WX.region rfl ?_
      refine WXL.fieldAddr (off' := 1) Met.none rfl Try.underlying25 rfl sz3 rfl ?_
      first | refine WXL.ld Met.none rfl agg3 ?_ | refine WXL.ldS Met.none rfl agg3 ?_
      refine WXL.buildSlice (c := [_]) Met.none rfl elem22 sz3 zero3 (by decide) (by decide) rfl rfl rfl rfl (fun b43 => ?_)
      refine WXL.assign Met.none rfl ?_
      refine WXL.nil ?_
      refine Fin.then_normal ?_
      refine WX.seq ?_
      refine WX.region rfl ?_
      refine WXL.assign Met.none rfl ?_
      refine WXL.nil ?_
      refine Fin.then_normal ?_
      refine WX.seq ?_
      refine WX.region rfl ?_
      refine WXL.fieldAddr (off' := 1) Met.none rfl Try.underlying25 rfl sz3 rfl ?_
      first | refine WXL.ld Met.none rfl agg3 ?_ | refine WXL.ldS Met.none rfl agg3 ?_
      refine WXL.assign Met.none rfl ?_
      refine WXL.nil ?_
      refine Fin.then_normal ?_
      refine WX.seq ?_
      refine WX.region rfl ?_
      refine WXL.assign Met.none rfl ?_
      refine WXL.nil ?_
      refine Fin.then_normal ?_
      refine WX.seq ?_
      refine WX.block ?_
      refine WX.loop (fun q : List (Nat × Int) × Nat × Nat × Option Addr × Nat × Objs × Int => [(2, Ptr b2 0), (9, .slice a34 g.length c34), (10, .slice aP PL.length cP), (11, .slice aW W.length cW), (12, Row q.2.1 0 (nodesOf n q.1).length q.2.2.1), (13, .slice q.2.2.2.1 q.1.length q.2.2.2.2.1), (14, I (curr n q.1)), (15, I q.2.2.2.2.2.2)]) (fun q => (q.2.1, ⟨1, false, (nodesOf n q.1).map I⟩) :: (b2, ⟨0, false, [I n.nodes, I n.source, I n.sink, .slice a n.edges.length c]⟩) :: (q.2.2.2.2.2.1 ++ (Gg ++ (GP ++ (GW ++ (Q ++ O)))))) (fun q => Grow 1 q.2.2.2.1 q.1.length q.2.2.2.2.1 (q.1.map fun p => I (p.1 : Int)) q.2.2.2.2.2.1 ∧ q.1.length ≤ n.edges.length ∧ ((q.2.2.2.2.2.2 = -1 ∧ Tra n g q.1 ∧ ∀ ps' k', TrTo n g q.1 ps' k' → TrTo n g [] ps' k') ∨ (0 ≤ q.2.2.2.2.2.2 ∧ TrTo n g [] q.1 q.2.2.2.2.2.2))) (fun q => n.edges.length + 1 - q.1.length) ([], b43, 1, none, 0, [], -1) ⟨.nil, by simp, .inl ⟨rfl, Tra.nil hn g, fun _ _ h => h⟩⟩ (fun s hs => hs.tl [0, 1] 2) (fun q hq => ?_)
      obtain ⟨ps, bn, cn, ae, ce, Ge, k⟩ := q
      obtain ⟨hGe, hpl, htr⟩ := hq
      simp only at hGe hpl htr
      dsimp only
      have hnl := nodesOf_len n ps
      refine WX.seq ?_
      refine WX.seq ?_
      refine WX.region rfl ?_
      refine WXL.move Met.none rfl ?_
      refine WXL.fieldAddr (off' := 2) Met.none rfl Try.underlying25 rfl sz3 rfl ?_
      first | refine WXL.ld Met.none rfl agg3 ?_ | refine WXL.ldS Met.none rfl agg3 ?_
      refine WXL.bin Met.none rfl rfl rfl ?_
      refine WXL.move Met.none rfl ?_
      refine WXL.split (d := 50) rfl (fun hg50 => ?_) (fun hg50 => ?_)
      · try simp only [cnd] at hg50
        refine WXL.move (Met.some rfl rfl rfl) rfl ?_
        refine WXL.bin (Met.some rfl rfl rfl) rfl rfl rfl ?_
        refine WXL.pick_t Met.none rfl rfl ?_
        refine WXL.nil ?_
        refine Fin.then_normal ?_
        refine WX.cond rfl (fun hc2 => ?_) (fun hc2 => ?_)
        · try simp only [cnd] at hc2
          refine WX.skip ?_
          refine Fin.then_normal ?_
          refine WX.block ?_
          refine WX.seq ?_
          obtain ⟨hk1, hT, htg⟩ : k = -1 ∧ Tra n g ps ∧ ∀ ps' k', TrTo n g ps ps' k' → TrTo n g [] ps' k' := by
            rcases htr with q | q
            · exact q
            · omega
          subst hk1
          have hcs : curr n ps ≠ n.sink := by first | assumption | omega
          obtain ⟨i, hi⟩ := hT.more hn hB hs hcs
          obtain ⟨hie, hig⟩ := leave_is hi
          have hlz : leaveZ n g (curr n ps) = i := by unfold leaveZ; rw [hi]
          have hcin := hT.inside _ (curr_mem n ps)
          refine WX.region rfl ?_
          refine WXL.ldN (vs := [_, _, _, _]) Met.none rfl agg25 sz25 ?_
          refine WXL.move Met.none rfl ?_
          refine WXL.move Met.none rfl ?_
          refine WXL.cl (O1 := _) Met.none rfl (fnOk_of Try.func54 (by decide +kernel)) rfl (fun _ h => h) (refLeave_ok _ n g (curr n ps) a a34 c c34 (by omega) hgl src_ src_) (fun v O' hp => ?_)
          obtain ⟨rfl, hO⟩ := hp
          subst O'
          rw [hlz]
          refine WXL.assign Met.none rfl ?_
          refine WXL.nil ?_
          refine Fin.then_normal ?_
          refine WX.seq ?_
          refine WX.region rfl ?_
          refine WXL.fieldAddr (off' := 3) Met.none rfl Try.underlying25 rfl sz23 rfl ?_
          first | refine WXL.ld Met.none rfl agg23 ?_ | refine WXL.ldS Met.none rfl agg23 ?_
          refine WXL.move Met.none rfl ?_
          first | refine WXL.ix Met.none rfl rfl elem23 sz63 ?_ | refine WXL.ixS Met.none rfl rfl elem23 sz63 ?_
          first | refine WXL.ldN Met.none rfl agg63 sz63 ?_ | refine WXL.ldNS Met.none rfl agg63 sz63 ?_
          refine WXL.move Met.none rfl ?_
          refine WXL.cl (O1 := _) Met.none rfl (fnOk_of Try.func41 (by decide +kernel)) rfl (fun _ h => h) (other_ok _ (nth n.edges i) (curr n ps)) (fun v O' hp => ?_)
          obtain ⟨rfl, hO⟩ := hp
          subst O'
          refine WXL.assign Met.none rfl ?_
          refine WXL.nil ?_
          refine Fin.then_normal ?_
          refine WX.seq ?_
          refine WX.region rfl ?_
          refine WXL.move Met.none rfl ?_
          refine WXL.move Met.none rfl ?_
          refine WXL.buildSlice (c := [_]) Met.none rfl elem22 sz3 zero3 (by decide) (by decide) rfl rfl rfl rfl (fun b67 => ?_)
          refine WXL.apG [_, _, _] Met.none rfl rfl isrow22 elem22 sz3 by3 zero3 (Src.lit (cs := [_])) (fun a68 c68 G68 hG68 => ?_)
          refine WXL.assign Met.none rfl ?_
          refine WXL.nil ?_
          refine Fin.then_normal ?_
          refine WX.seq ?_
          refine WX.seq ?_
          refine WX.region rfl ?_
          refine WXL.assign Met.none rfl ?_
          refine WXL.nil ?_
          refine Fin.then_normal ?_
          refine WX.block ?_
          refine WX.loop (fun q : Nat × Int => [(2, Ptr b2 0), (9, .slice a34 g.length c34), (10, .slice aP PL.length cP), (11, .slice aW W.length cW), (12, Row bn 0 (nodesOf n ps).length cn), (13, .slice a68 (ps.length + 1) c68), (14, I (nextOf n ps i)), (15, I q.2), (17, I (q.1 : Int))]) (fun q => (bn, ⟨1, false, (nodesOf n ps).map I⟩) :: (b2, ⟨0, false, [I n.nodes, I n.source, I n.sink, .slice a n.edges.length c]⟩) :: (G68 ++ (Gg ++ (GP ++ (GW ++ (Q ++ O)))))) (fun q => q.1 ≤ (nodesOf n ps).length ∧ q.2 = idxZ ((nodesOf n ps).take q.1) (nextOf n ps i)) (fun q => (nodesOf n ps).length - q.1) (0, -1) ⟨by omega, rfl⟩ (fun s hs => hs.tl [1, 2] 3) (fun q hq => ?_)
          obtain ⟨j, fi⟩ := q
          obtain ⟨hj, hfi⟩ := hq
          simp only at hj hfi
          dsimp only
          refine WX.seq ?_
          refine WX.seq ?_
          refine WX.region rfl ?_
          refine WXL.move Met.none rfl ?_
          refine WXL.move Met.none rfl ?_
          refine WXL.len Met.none rfl Try.underlying22 ?_
          refine WXL.bin Met.none rfl rfl rfl ?_
          refine WXL.nil ?_
          refine Fin.then_normal ?_
          refine WX.cond rfl (fun hc3 => ?_) (fun hc3 => ?_)
          · try simp only [cnd] at hc3
            refine WX.skip ?_
            refine Fin.then_normal ?_
            refine WX.seq ?_
            refine WX.block ?_
            refine WX.seq ?_
            refine WX.region rfl ?_
            refine WXL.move Met.none rfl ?_
            refine WXL.move Met.none rfl ?_
            first | refine WXL.ix Met.none rfl rfl elem22 sz3 ?_ | refine WXL.ixS Met.none rfl rfl elem22 sz3 ?_
            first | refine WXL.ld Met.none rfl agg3 ?_ | refine WXL.ldS Met.none rfl agg3 ?_
            refine WXL.move Met.none rfl ?_
            refine WXL.bin Met.none rfl rfl rfl ?_
            refine WXL.nil ?_
            refine Fin.then_normal ?_
            refine WX.cond rfl (fun hc4 => ?_) (fun hc4 => ?_)
            · try simp only [cnd] at hc4
              refine WX.region rfl ?_
              refine WXL.move Met.none rfl ?_
              refine WXL.assign Met.none rfl ?_
              refine WXL.nil ?_
              refine Fin.block_normal ?_
              refine Fin.then_normal ?_
              refine WX.region rfl ?_
              refine WXL.move Met.none rfl ?_
              refine WXL.bin Met.none rfl rfl bvA ?_
              refine WXL.assign Met.none rfl ?_
              refine WXL.nil ?_
              first
              | exact Fin.loop_next (j + 1, (j : Int)) ⟨by simp only; omega, (idx_take1 hT.nodup (by omega) hc4).symm⟩ (by simp only; omega) (fun s hs => hs.tl [0, 1] 2)
              | exact Fin.loop_next (j + 1, fi) ⟨by simp only; omega, by rw [idx_take2 hT.nodup (by omega) hc4]; exact hfi⟩ (by simp only; omega) (fun s hs => hs.tl [0, 1] 2)
            · try simp only [cnd] at hc4
              refine WX.skip ?_
              refine Fin.block_normal ?_
              refine Fin.then_normal ?_
              refine WX.region rfl ?_
              refine WXL.move Met.none rfl ?_
              refine WXL.bin Met.none rfl rfl bvA ?_
              refine WXL.assign Met.none rfl ?_
              refine WXL.nil ?_
              first
              | exact Fin.loop_next (j + 1, (j : Int)) ⟨by simp only; omega, (idx_take1 hT.nodup (by omega) hc4).symm⟩ (by simp only; omega) (fun s hs => hs.tl [0, 1] 2)
              | exact Fin.loop_next (j + 1, fi) ⟨by simp only; omega, by rw [idx_take2 hT.nodup (by omega) hc4]; exact hfi⟩ (by simp only; omega) (fun s hs => hs.tl [0, 1] 2)
          · try simp only [cnd] at hc3
            refine WX.exit ?_
            refine Fin.then_exit ?_
            refine Fin.loop_exit ?_
            refine Fin.block_hit rfl ?_
            refine Fin.then_normal ?_
            have hjl : j = (nodesOf n ps).length := by omega
            subst hjl
            rw [List.take_length] at hfi
            have hE68 : Grow 1 a68 (ps ++ [(i, nextOf n ps i)]).length c68 ((ps ++ [(i, nextOf n ps i)]).map fun p => I (p.1 : Int)) G68 := by
              rw [List.length_append, List.length_singleton, List.map_append]
              exact hG68
            refine WX.region rfl ?_
            refine WXL.move Met.none rfl ?_
            refine WXL.move Met.none rfl ?_
            refine WXL.buildSlice (c := [_]) Met.none rfl elem22 sz3 zero3 (by decide) (by decide) rfl rfl rfl rfl (fun b84 => ?_)
            refine WXL.ap Met.none rfl rfl isrow22 elem22 sz3 by3 zero3 (Src.lit (cs := [_])) (fun b85 => ?_) (hl := (by simp)) (hc := (show _ = (nodesOf n (ps ++ [(i, nextOf n ps i)])).map I from by rw [nodesOf_snoc, List.map_append, List.drop_zero]; rfl))
            refine WXL.assign Met.none rfl ?_
            refine WXL.nil ?_
            refine Fin.block_normal ?_
            have hnl2 : (nodesOf n (ps ++ [(i, nextOf n ps i)])).length = (nodesOf n ps).length + 1 := by rw [nodesOf_snoc]; simp
            have hcu : curr n (ps ++ [(i, nextOf n ps i)]) = nextOf n ps i := curr_snoc n ps _
            by_cases hm : nextOf n ps i ∈ nodesOf n ps
            · have hend := htg _ _ (.circ hcs hi hm)
              have hlen2 := (hend.ends hn (Tra.nil hn g)).1.len
              rw [List.length_append, List.length_singleton] at hlen2
              obtain ⟨jj, j1, j2, j3⟩ := idxZ_pos hm
              refine Fin.loop_next (ps ++ [(i, nextOf n ps i)], b85, (nodesOf n ps).length + 1, a68, c68, G68, fi) ⟨hE68, by simp only [List.length_append, List.length_singleton]; omega, .inr ⟨by simp only; rw [hfi, j1]; omega, by simp only; rw [hfi]; exact hend⟩⟩ (by simp only [List.length_append, List.length_singleton]; omega) ?_
              simp only [hnl2, hcu, List.length_append, List.length_singleton]
              exact (fun s hs => hs.tl [1, 2] 3)
            · have hT2 := hT.snoc hn hi hm
              have hlen2 := len_of_nodup hT2.edges (m := n.edges.length) (fun x hx => by
                obtain ⟨q, hq, rfl⟩ := List.mem_map.1 hx
                exact (hT2.ok q hq).1)
              rw [List.length_map, List.length_append, List.length_singleton] at hlen2
              refine Fin.loop_next (ps ++ [(i, nextOf n ps i)], b85, (nodesOf n ps).length + 1, a68, c68, G68, fi) ⟨hE68, by simp only [List.length_append, List.length_singleton]; omega, .inl ⟨by simp only; rw [hfi, idxZ_neg hm], hT2, fun ps' k' h => htg ps' k' (.step hcs hi hm h)⟩⟩ (by simp only [List.length_append, List.length_singleton]; omega) ?_
              simp only [hnl2, hcu, List.length_append, List.length_singleton]
              exact (fun s hs => hs.tl [1, 2] 3)
        · try simp only [cnd] at hc2
          refine WX.exit ?_
          refine Fin.then_exit ?_
          refine Fin.loop_exit ?_
          refine Fin.block_hit rfl ?_
          refine Fin.then_normal ?_
          refine WX.seq ?_
          have hend0 : TrTo n g [] ps k := by
            rcases htr with ⟨q1, q2, q3⟩ | ⟨q1, q2⟩
            · subst q1
              refine q3 _ _ (.stop ?_)
              first | assumption | omega
            · exact q2
          obtain ⟨hend, hkm⟩ := hend0.ends hn (Tra.nil hn g)
          obtain ⟨m1, m2, m3, m4, m5, m6⟩ := round_ok hn hB hend0
          have hsh := hend.short
          have hfk : (fromK k : Int) = max k 0 := by unfold fromK; omega
          refine WX.region rfl ?_
          refine WXL.move Met.none rfl ?_
          refine WXL.max Met.none rfl rfl ?_
          refine WXL.assign Met.none rfl ?_
          refine WXL.nil ?_
          refine Fin.then_normal ?_
          refine WX.seq ?_
          rw [← hfk]
          refine WX.region rfl ?_
          refine WXL.assign Met.none rfl ?_
          refine WXL.nil ?_
          refine Fin.then_normal ?_
          refine WX.seq ?_
          refine WX.seq ?_
          refine WX.region rfl ?_
          refine WXL.move Met.none rfl ?_
          refine WXL.assign Met.none rfl ?_
          refine WXL.nil ?_
          refine Fin.then_normal ?_
          refine WX.block ?_
          refine WX.loop (fun q : Nat × Int => [(2, Ptr b2 0), (9, .slice a34 g.length c34), (10, .slice aP PL.length cP), (11, .slice aW W.length cW), (12, Row bn 0 (nodesOf n ps).length cn), (13, .slice ae ps.length ce), (15, I k), (18, I (fromK k : Int)), (19, I q.2), (20, I (q.1 : Int))]) (fun q => (bn, ⟨1, false, (nodesOf n ps).map I⟩) :: (b2, ⟨0, false, [I n.nodes, I n.source, I n.sink, .slice a n.edges.length c]⟩) :: (Ge ++ (Gg ++ (GP ++ (GW ++ (Q ++ O)))))) (fun q => q.1 ≤ ps.length ∧ lrA n g q.2 (ps.drop q.1) = minA n g (ps.drop (fromK k))) (fun q => ps.length - q.1) (fromK k, -1) ⟨Nat.le_of_lt hsh, rfl⟩ (fun s hs => hs.tl [0, 1] 2) (fun q hq => ?_)
          obtain ⟨j, x⟩ := q
          obtain ⟨hj, hlr⟩ := hq
          simp only at hj hlr
          dsimp only
          refine WX.seq ?_
          refine WX.seq ?_
          refine WX.region rfl ?_
          refine WXL.move Met.none rfl ?_
          refine WXL.move Met.none rfl ?_
          refine WXL.len Met.none rfl Try.underlying22 ?_
          refine WXL.bin Met.none rfl rfl rfl ?_
          refine WXL.nil ?_
          refine Fin.then_normal ?_
          refine WX.cond rfl (fun hc5 => ?_) (fun hc5 => ?_)
          · try simp only [cnd] at hc5
            refine WX.skip ?_
            refine Fin.then_normal ?_
            refine WX.seq ?_
            refine WX.block ?_
            refine WX.seq ?_
            have hjp : j < ps.length := by omega
            have hok := hend.ok _ (nth_mem hjp)
            have hbn := hB.bnd _ hok.1
            have hjg : (nth ps j).1 < g.length := by omega
            have hdn := drop_nth hjp
            refine WX.draw rfl ?_
            refine WXL.move Met.none rfl ?_
            refine WXL.move Met.none rfl ?_
            refine WXL.move Met.none rfl ?_
            first | refine WXL.ix Met.none rfl rfl elem22 sz3 ?_ | refine WXL.ixS Met.none rfl rfl elem22 sz3 ?_
            first | refine WXL.ld Met.none rfl agg3 ?_ (hv := (cell_map (fun p : Nat × Int => I (p.1 : Int)) ps j hjp)) | refine WXL.ldS Met.none rfl agg3 ?_ (hv := (cell_map (fun p : Nat × Int => I (p.1 : Int)) ps j hjp))
            first | refine WXL.ix Met.none rfl rfl elem22 sz3 ?_ | refine WXL.ixS Met.none rfl rfl elem22 sz3 ?_
            first | refine WXL.ld Met.none rfl agg3 ?_ | refine WXL.ldS Met.none rfl agg3 ?_
            refine WXL.move Met.none rfl ?_
            refine WXL.move Met.none rfl ?_
            refine WXL.move Met.none rfl ?_
            first | refine WXL.ix Met.none rfl rfl elem22 sz3 ?_ | refine WXL.ixS Met.none rfl rfl elem22 sz3 ?_
            first | refine WXL.ld Met.none rfl agg3 ?_ (hv := (cell_map (fun p : Nat × Int => I (p.1 : Int)) ps j hjp)) | refine WXL.ldS Met.none rfl agg3 ?_ (hv := (cell_map (fun p : Nat × Int => I (p.1 : Int)) ps j hjp))
            first | refine WXL.ix Met.none rfl rfl elem22 sz3 ?_ | refine WXL.ixS Met.none rfl rfl elem22 sz3 ?_
            first | refine WXL.ld Met.none rfl agg3 ?_ | refine WXL.ldS Met.none rfl agg3 ?_
            refine WXL.neg Met.none rfl (by first | exact wrap_neg (by omega) (by omega) | exact rfl) ?_
            refine WXL.max Met.none rfl rfl ?_
            rw [amt_max hok.2.2]
            refine WXL.assign Met.none rfl ?_
            refine WXL.nil ?_
            refine Fin.then_normal ?_
            refine WX.seq ?_
            refine WX.region rfl ?_
            refine WXL.move Met.none rfl ?_
            refine WXL.bin Met.none rfl rfl rfl ?_
            refine WXL.move Met.none rfl ?_
            refine WXL.split (d := 113) rfl (fun hg113 => ?_) (fun hg113 => ?_)
            · try simp only [cnd] at hg113
              refine WXL.miss (j := 2) (d := 113) rfl rfl rfl ?_
              refine WXL.miss (j := 2) (d := 113) rfl rfl rfl ?_
              refine WXL.miss (j := 2) (d := 113) rfl rfl rfl ?_
              refine WXL.pick_t Met.none rfl rfl ?_
              refine WXL.nil ?_
              refine Fin.then_normal ?_
              refine WX.cond rfl (fun hc6 => ?_) (fun hc6 => nomatch hc6)
              refine WX.region rfl ?_
              refine WXL.move Met.none rfl ?_
              refine WXL.assign Met.none rfl ?_
              refine WXL.nil ?_
              refine Fin.block_normal ?_
              refine Fin.then_normal ?_
              refine WX.region rfl ?_
              refine WXL.move Met.none rfl ?_
              refine WXL.bin Met.none rfl rfl bvA ?_
              refine WXL.assign Met.none rfl ?_
              refine WXL.nil ?_
              rw [hdn] at hlr
              first
              | exact Fin.loop_next (j + 1, amtTo n g (nth ps j)) ⟨by simp only; omega, (lrA_step1 hok.2.2 (.inl hg113)).symm.trans hlr⟩ (by simp only; omega) (fun s hs => hs.tl [0, 1] 2)
              | exact Fin.loop_next (j + 1, amtTo n g (nth ps j)) ⟨by simp only; omega, (lrA_step1 hok.2.2 (.inr hc6)).symm.trans hlr⟩ (by simp only; omega) (fun s hs => hs.tl [0, 1] 2)
              | exact Fin.loop_next (j + 1, x) ⟨by simp only; omega, (lrA_step2 (Int.not_lt.2 hg113) (Int.not_lt.2 hc6)).symm.trans hlr⟩ (by simp only; omega) (fun s hs => hs.tl [0, 1] 2)
            · try simp only [cnd] at hg113
              refine WXL.move (Met.some rfl rfl rfl) rfl ?_
              refine WXL.move (Met.some rfl rfl rfl) rfl ?_
              refine WXL.bin (Met.some rfl rfl rfl) rfl rfl rfl ?_
              refine WXL.pick_f Met.none rfl rfl ?_
              refine WXL.nil ?_
              refine Fin.then_normal ?_
              refine WX.cond rfl (fun hc6 => ?_) (fun hc6 => ?_)
              · try simp only [cnd] at hc6
                refine WX.region rfl ?_
                refine WXL.move Met.none rfl ?_
                refine WXL.assign Met.none rfl ?_
                refine WXL.nil ?_
                refine Fin.block_normal ?_
                refine Fin.then_normal ?_
                refine WX.region rfl ?_
                refine WXL.move Met.none rfl ?_
                refine WXL.bin Met.none rfl rfl bvA ?_
                refine WXL.assign Met.none rfl ?_
                refine WXL.nil ?_
                rw [hdn] at hlr
                first
                | exact Fin.loop_next (j + 1, amtTo n g (nth ps j)) ⟨by simp only; omega, (lrA_step1 hok.2.2 (.inl hg113)).symm.trans hlr⟩ (by simp only; omega) (fun s hs => hs.tl [0, 1] 2)
                | exact Fin.loop_next (j + 1, amtTo n g (nth ps j)) ⟨by simp only; omega, (lrA_step1 hok.2.2 (.inr hc6)).symm.trans hlr⟩ (by simp only; omega) (fun s hs => hs.tl [0, 1] 2)
                | exact Fin.loop_next (j + 1, x) ⟨by simp only; omega, (lrA_step2 (Int.not_lt.2 hg113) (Int.not_lt.2 hc6)).symm.trans hlr⟩ (by simp only; omega) (fun s hs => hs.tl [0, 1] 2)
              · try simp only [cnd] at hc6
                refine WX.skip ?_
                refine Fin.block_normal ?_
                refine Fin.then_normal ?_
                refine WX.region rfl ?_
                refine WXL.move Met.none rfl ?_
                refine WXL.bin Met.none rfl rfl bvA ?_
                refine WXL.assign Met.none rfl ?_
                refine WXL.nil ?_
                rw [hdn] at hlr
                first
                | exact Fin.loop_next (j + 1, amtTo n g (nth ps j)) ⟨by simp only; omega, (lrA_step1 hok.2.2 (.inl hg113)).symm.trans hlr⟩ (by simp only; omega) (fun s hs => hs.tl [0, 1] 2)
                | exact Fin.loop_next (j + 1, amtTo n g (nth ps j)) ⟨by simp only; omega, (lrA_step1 hok.2.2 (.inr hc6)).symm.trans hlr⟩ (by simp only; omega) (fun s hs => hs.tl [0, 1] 2)
                | exact Fin.loop_next (j + 1, x) ⟨by simp only; omega, (lrA_step2 (Int.not_lt.2 hg113) (Int.not_lt.2 hc6)).symm.trans hlr⟩ (by simp only; omega) (fun s hs => hs.tl [0, 1] 2)
          · try simp only [cnd] at hc5
            refine WX.exit ?_
            refine Fin.then_exit ?_
            refine Fin.loop_exit ?_
            refine Fin.block_hit rfl ?_
            refine Fin.then_normal ?_
            refine WX.seq ?_
            refine WX.seq ?_
            have hjp : j = ps.length := by omega
            subst hjp
            rw [List.drop_length] at hlr
            have hxe := lrA_end hlr m1
            subst hxe
            refine WX.region rfl ?_
            refine WXL.move Met.none rfl ?_
            refine WXL.assign Met.none rfl ?_
            refine WXL.nil ?_
            refine Fin.then_normal ?_
            refine WX.block ?_
            refine WX.loop (fun q : Nat × List Int × Objs => [(2, Ptr b2 0), (9, .slice a34 q.2.1.length c34), (10, .slice aP PL.length cP), (11, .slice aW W.length cW), (12, Row bn 0 (nodesOf n ps).length cn), (13, .slice ae ps.length ce), (15, I k), (19, I (minA n g (ps.drop (fromK k)))), (22, I (q.1 : Int))]) (fun q => (bn, ⟨1, false, (nodesOf n ps).map I⟩) :: (b2, ⟨0, false, [I n.nodes, I n.source, I n.sink, .slice a n.edges.length c]⟩) :: (Ge ++ (q.2.2 ++ (GP ++ (GW ++ (Q ++ O)))))) (fun q => q.1 ≤ ps.length ∧ Chg2 n g (minA n g (ps.drop (fromK k))) (ps.drop (fromK k)) (ps.drop q.1) q.2.1 ∧ Grow 1 a34 q.2.1.length c34 (q.2.1.map I) q.2.2 ∧ fromK k ≤ q.1) (fun q => ps.length - q.1) (fromK k, g, Gg) ⟨Nat.le_of_lt hsh, ⟨rfl, rfl, fun _ _ => rfl, by rw [List.map_drop]; exact (List.drop_sublist _ _).nodup hend.edges⟩, hGg, Nat.le_refl _⟩ (fun s hs => hs.tl [0, 1] 2) (fun q hq => ?_)
            obtain ⟨j, g', Gg'⟩ := q
            obtain ⟨hj, hC, hGg', hjk⟩ := hq
            simp only at hj hC hGg' hjk
            dsimp only
            have hcl := hC.len
            refine WX.seq ?_
            refine WX.seq ?_
            refine WX.region rfl ?_
            refine WXL.move Met.none rfl ?_
            refine WXL.move Met.none rfl ?_
            refine WXL.len Met.none rfl Try.underlying22 ?_
            refine WXL.bin Met.none rfl rfl rfl ?_
            refine WXL.nil ?_
            refine Fin.then_normal ?_
            refine WX.cond rfl (fun hc7 => ?_) (fun hc7 => ?_)
            · try simp only [cnd] at hc7
              refine WX.skip ?_
              refine Fin.then_normal ?_
              refine WX.seq ?_
              refine WX.block ?_
              have hjp : j < ps.length := by omega
              have hok := hend.ok _ (nth_mem hjp)
              have hdn := drop_nth hjp
              rw [hdn] at hC
              have hjn : nth (nodesOf n ps) (j + 1) = (nth ps j).2 := by
                show nth (ps.map (·.2)) j = _
                exact nth_map hjp
              have hsm := hC.same _ (List.mem_cons_self ..)
              have hbn := hB.bnd _ hok.1
              have hjj : (((j : Int) + 1).toNat) = j + 1 := by omega
              refine WX.draw rfl ?_
              refine WXL.ldN (vs := [_, _, _, _]) Met.none rfl agg25 sz25 ?_
              refine WXL.move Met.none rfl ?_
              refine WXL.move Met.none rfl ?_
              refine WXL.move Met.none rfl ?_
              first | refine WXL.ix Met.none rfl rfl elem22 sz3 ?_ | refine WXL.ixS Met.none rfl rfl elem22 sz3 ?_
              first | refine WXL.ld Met.none rfl agg3 ?_ (hv := (cell_map (fun p : Nat × Int => I (p.1 : Int)) ps j hjp)) | refine WXL.ldS Met.none rfl agg3 ?_ (hv := (cell_map (fun p : Nat × Int => I (p.1 : Int)) ps j hjp))
              refine WXL.move Met.none rfl ?_
              refine WXL.move Met.none rfl ?_
              refine WXL.bin Met.none rfl rfl bvA ?_
              first | refine WXL.ix Met.none rfl rfl elem22 sz3 ?_ | refine WXL.ixS Met.none rfl rfl elem22 sz3 ?_
              first | refine WXL.ld Met.none rfl agg3 ?_ (hv := (cell_map I (nodesOf n ps) (j + 1) (by omega))) | refine WXL.ldS Met.none rfl agg3 ?_ (hv := (cell_map I (nodesOf n ps) (j + 1) (by omega)))
              rw [hjn]
              refine WXL.move Met.none rfl ?_
              refine WXL.neg Met.none rfl (by first | exact wrap_neg (by omega) (by omega) | exact rfl) ?_
              refine WXL.cl (O1 := (Gg' ++ ((bn, ⟨1, false, (nodesOf n ps).map I⟩) :: (b2, ⟨0, false, [I n.nodes, I n.source, I n.sink, .slice a n.edges.length c]⟩) :: (Ge ++ (GP ++ (GW ++ (Q ++ O))))))) Met.none rfl (fnOk_of Try.func43 (by decide +kernel)) rfl (fun _ h => by simpa only [List.append_assoc, List.cons_append] using Sat.back (A := (bn, _) :: (b2, _) :: Ge) (G := Gg') h) (change_ok _ Gg' n g' (nth ps j).1 (nth ps j).2 (-(minA n g (ps.drop (fromK k)))) a a34 c c34 src_ hGg' (by omega) (by omega) (fun _ => by unfold In64; rw [hsm]; omega) (fun _ => by unfold In64; rw [hsm]; omega)) (fun v O' hp => ?_)
              obtain ⟨Gg9, hGg9, rfl⟩ := hp
              refine WXL.of (fun s hs => St.via hs (fun h hh => by simpa only [List.append_assoc, List.cons_append] using Sat.swap (G := Gg9) (A := (bn, _) :: (b2, _) :: Ge) hh)) ?_
              refine WXL.nil ?_
              refine Fin.block_normal ?_
              refine Fin.then_normal ?_
              refine WX.region rfl ?_
              refine WXL.move Met.none rfl ?_
              refine WXL.bin Met.none rfl rfl bvA ?_
              refine WXL.assign Met.none rfl ?_
              refine WXL.nil ?_
              have hC2 := hC.next hgl (fun p hp => by
                rw [← hdn] at hp
                exact (hend.ok p (List.mem_of_mem_drop hp)).1)
              exact Fin.loop_next (j + 1, changeR n g' (nth ps j).1 (nth ps j).2 (-(minA n g (ps.drop (fromK k)))), Gg9) ⟨by simp only; omega, hC2, by simp only; rw [changeR_length]; exact hGg9, by simp only; omega⟩ (by simp only; omega) (by simp only [changeR_length]; exact (fun s hs => hs.tl [0, 1] 2))
            · try simp only [cnd] at hc7
              refine WX.exit ?_
              refine Fin.then_exit ?_
              refine Fin.loop_exit ?_
              refine Fin.block_hit rfl ?_
              refine Fin.then_normal ?_
              refine WX.seq ?_
              have hjp : j = ps.length := by omega
              subst hjp
              rw [List.drop_length] at hC
              have hge : g' = changeW n (-(minA n g (ps.drop (fromK k)))) (ps.drop (fromK k)) g := hC.goal
              subst hge
              have habs2 := nz_in n (changeW n (-(minA n g (ps.drop (fromK k)))) (ps.drop (fromK k)) g)
              have hnz := nz_round hn hB hend0
              refine WX.region rfl ?_
              refine WXL.move Met.none rfl ?_
              refine WXL.bin Met.none rfl rfl rfl ?_
              refine WXL.nil ?_
              refine Fin.then_normal ?_
              refine WX.cond rfl (fun hc8 => ?_) (fun hc8 => ?_)
              · try simp only [cnd] at hc8
                refine WX.seq ?_
                refine WX.region rfl ?_
                refine WXL.move Met.none rfl ?_
                refine WXL.move Met.none rfl ?_
                refine WXL.buildSlice (c := [_]) Met.none rfl elem50 sz22 zero22 (by decide) (by decide) rfl rfl rfl rfl (fun b144 => ?_)
                refine WXL.apG ((_, _) :: (bn, _) :: (b2, _) :: (Ge ++ Gg')) Met.none rfl rfl isrow50 elem50 sz22 by22 zero22 (Src.lit (cs := [_])) (fun a145 c145 G145 hG145 => ?_) (hO := (by simp only [List.append_assoc, List.cons_append]; exact rfl))
                refine WXL.of (fun s hs => St.eqv hs (by simp only [List.append_assoc, List.cons_append]; exact rfl)) ?_
                refine WXL.assign Met.none rfl ?_
                refine WXL.nil ?_
                refine Fin.then_normal ?_
                refine WX.region rfl ?_
                refine WXL.move Met.none rfl ?_
                refine WXL.move Met.none rfl ?_
                refine WXL.buildSlice (c := [_]) Met.none rfl elem22 sz3 zero3 (by decide) (by decide) rfl rfl rfl rfl (fun b148 => ?_)
                refine WXL.apG ((_, _) :: (_, _) :: (bn, _) :: (b2, _) :: (Ge ++ (Gg' ++ G145))) Met.none rfl rfl isrow22 elem22 sz3 by3 zero3 (Src.lit (cs := [_])) (fun a149 c149 G149 hG149 => ?_) (hO := (by simp only [List.append_assoc, List.cons_append]; exact rfl))
                refine WXL.assign Met.none rfl ?_
                refine WXL.nil ?_
                refine Fin.block_normal ?_
                first
                | (have hkn : ¬ k < 0 := by omega
                   refine Fin.loop_next (changeW n (-(minA n g (ps.drop (fromK k)))) (ps.drop (fromK k)) g, Gg', PL, Q, (aP, cP, GP), W, (aW, cW, GW), lim) ⟨hGg', m4, fun r hr => hgoal r (.more hs hend0 (by rw [if_neg hkn, if_neg hkn]; exact hr)), hPM, hGP, hGW, by simp only; omega, hWl, hlim2⟩ (by simp only; omega) ?_
                   exact fun s hs => St.tl [0] 1 (St.via hs (fun h hh => Sat.mid (G := [_]) (A := Ge) hh.tail)))
                | (have hkn : k < 0 := hc8
                   have hcnt2 : PL.length + 1 + (nzSum n (changeW n (-(minA n g (ps.drop (fromK k)))) (ps.drop (fromK k)) g)).toNat ≤ lim := by omega
                   have hmu : (nzSum n (changeW n (-(minA n g (ps.drop (fromK k)))) (ps.drop (fromK k)) g)).toNat < (nzSum n g).toNat := by omega
                   have hW' : Grow 1 a149 (W ++ [minA n g (ps.drop (fromK k))]).length c149 ((W ++ [minA n g (ps.drop (fromK k))]).map I) G149 := by
                     rw [List.length_append, List.length_singleton, List.map_append]
                     exact hG149
                   have hP' : Grow 1 a145 (PL ++ [(⟨nodesOf n ps, some ⟨bn, 0, none⟩, (nodesOf n ps).length, cn⟩ : RowP Int)]).length c145 ((PL ++ [(⟨nodesOf n ps, some ⟨bn, 0, none⟩, (nodesOf n ps).length, cn⟩ : RowP Int)]).map encR) G145 := by
                     rw [List.length_append, List.length_singleton, List.map_append]
                     exact hG145
                   have hmp : (PL ++ [(⟨nodesOf n ps, some ⟨bn, 0, none⟩, (nodesOf n ps).length, cn⟩ : RowP Int)]).map (·.l) = PL.map (·.l) ++ [nodesOf n ps] := by simp
                   refine Fin.loop_next (_, Gg', PL ++ [(⟨nodesOf n ps, some ⟨bn, 0, none⟩, (nodesOf n ps).length, cn⟩ : RowP Int)], (bn, ⟨1, false, (nodesOf n ps).map I⟩) :: Q, (a145, c145, G145), W ++ [minA n g (ps.drop (fromK k))], (a149, c149, G149), lim) ⟨hGg', m4, fun r hr => hgoal r (.more hs hend0 (by rw [if_pos hkn, if_pos hkn, ← hmp]; exact hr)), ⟨rfl, fun p hp => ?_⟩, hP', hW', by simp only [List.length_append, List.length_singleton]; exact hcnt2, by simp only [List.length_append, List.length_singleton]; omega, hlim2⟩ hmu ?_
                   · rcases List.mem_append.1 hp with hp | hp
                     · exact ⟨(hPM.row p hp).1, let ⟨b, h1, h2⟩ := (hPM.row p hp).2; ⟨b, h1, h2.cons⟩⟩
                     · rw [List.mem_singleton] at hp
                       subst hp
                       exact ⟨rfl, bn, rfl, Knows.at 0 rfl⟩
                   · simp only [List.length_append, List.length_singleton]
                     exact fun s hs => St.tl [0] 1 (St.via (O' := (b2, ⟨0, false, [I n.nodes, I n.source, I n.sink, .slice a n.edges.length c]⟩) :: (Gg' ++ (G145 ++ (G149 ++ ((bn, ⟨1, false, (nodesOf n ps).map I⟩) :: (Q ++ O)))))) hs (fun h hh => by
                       simp only [List.append_assoc, List.cons_append] at hh
                       have h3 := Sat.mid (G := [_, _]) (A := Ge) hh.tail.tail
                       have h5 := Sat.swap (G := [_]) (A := (b2, _) :: (Gg' ++ (G145 ++ G149))) (R := Q ++ O) (by simpa only [List.append_assoc, List.cons_append, List.nil_append] using h3)
                       simpa only [List.append_assoc, List.cons_append, List.nil_append] using h5)))
              · try simp only [cnd] at hc8
                refine WX.skip ?_
                refine Fin.block_normal ?_
                first
                | (have hkn : ¬ k < 0 := by omega
                   refine Fin.loop_next (changeW n (-(minA n g (ps.drop (fromK k)))) (ps.drop (fromK k)) g, Gg', PL, Q, (aP, cP, GP), W, (aW, cW, GW), lim) ⟨hGg', m4, fun r hr => hgoal r (.more hs hend0 (by rw [if_neg hkn, if_neg hkn]; exact hr)), hPM, hGP, hGW, by simp only; omega, hWl, hlim2⟩ (by simp only; omega) ?_
                   exact fun s hs => St.tl [0] 1 (St.via hs (fun h hh => Sat.mid (G := [_]) (A := Ge) hh.tail)))
                | (have hkn : k < 0 := hc8
                   have hcnt2 : PL.length + 1 + (nzSum n (changeW n (-(minA n g (ps.drop (fromK k)))) (ps.drop (fromK k)) g)).toNat ≤ lim := by omega
                   have hmu : (nzSum n (changeW n (-(minA n g (ps.drop (fromK k)))) (ps.drop (fromK k)) g)).toNat < (nzSum n g).toNat := by omega
                   have hW' : Grow 1 a149 (W ++ [minA n g (ps.drop (fromK k))]).length c149 ((W ++ [minA n g (ps.drop (fromK k))]).map I) G149 := by
                     rw [List.length_append, List.length_singleton, List.map_append]
                     exact hG149
                   have hP' : Grow 1 a145 (PL ++ [(⟨nodesOf n ps, some ⟨bn, 0, none⟩, (nodesOf n ps).length, cn⟩ : RowP Int)]).length c145 ((PL ++ [(⟨nodesOf n ps, some ⟨bn, 0, none⟩, (nodesOf n ps).length, cn⟩ : RowP Int)]).map encR) G145 := by
                     rw [List.length_append, List.length_singleton, List.map_append]
                     exact hG145
                   have hmp : (PL ++ [(⟨nodesOf n ps, some ⟨bn, 0, none⟩, (nodesOf n ps).length, cn⟩ : RowP Int)]).map (·.l) = PL.map (·.l) ++ [nodesOf n ps] := by simp
                   refine Fin.loop_next (_, Gg', PL ++ [(⟨nodesOf n ps, some ⟨bn, 0, none⟩, (nodesOf n ps).length, cn⟩ : RowP Int)], (bn, ⟨1, false, (nodesOf n ps).map I⟩) :: Q, (a145, c145, G145), W ++ [minA n g (ps.drop (fromK k))], (a149, c149, G149), lim) ⟨hGg', m4, fun r hr => hgoal r (.more hs hend0 (by rw [if_pos hkn, if_pos hkn, ← hmp]; exact hr)), ⟨rfl, fun p hp => ?_⟩, hP', hW', by simp only [List.length_append, List.length_singleton]; exact hcnt2, by simp only [List.length_append, List.length_singleton]; omega, hlim2⟩ hmu ?_
                   · rcases List.mem_append.1 hp with hp | hp
                     · exact ⟨(hPM.row p hp).1, let ⟨b, h1, h2⟩ := (hPM.row p hp).2; ⟨b, h1, h2.cons⟩⟩
                     · rw [List.mem_singleton] at hp
                       subst hp
                       exact ⟨rfl, bn, rfl, Knows.at 0 rfl⟩
                   · simp only [List.length_append, List.length_singleton]
                     exact fun s hs => St.tl [0] 1 (St.via (O' := (b2, ⟨0, false, [I n.nodes, I n.source, I n.sink, .slice a n.edges.length c]⟩) :: (Gg' ++ (G145 ++ (G149 ++ ((bn, ⟨1, false, (nodesOf n ps).map I⟩) :: (Q ++ O)))))) hs (fun h hh => by
                       simp only [List.append_assoc, List.cons_append] at hh
                       have h3 := Sat.mid (G := [_, _]) (A := Ge) hh.tail.tail
                       have h5 := Sat.swap (G := [_]) (A := (b2, _) :: (Gg' ++ (G145 ++ G149))) (R := Q ++ O) (by simpa only [List.append_assoc, List.cons_append, List.nil_append] using h3)
                       simpa only [List.append_assoc, List.cons_append, List.nil_append] using h5)))
      · try simp only [cnd] at hg50
        refine WXL.miss (j := 4) (d := 50) rfl rfl rfl ?_
        refine WXL.miss (j := 4) (d := 50) rfl rfl rfl ?_
        refine WXL.pick_f Met.none rfl rfl ?_
        refine WXL.nil ?_
        refine Fin.then_normal ?_
        refine WX.cond rfl (fun hc2 => nomatch hc2) (fun hc2 => ?_)
        refine WX.exit ?_
        refine Fin.then_exit ?_
        refine Fin.loop_exit ?_
        refine Fin.block_hit rfl ?_
        refine Fin.then_normal ?_
        refine WX.seq ?_
        have hend0 : TrTo n g [] ps k := by
          rcases htr with ⟨q1, q2, q3⟩ | ⟨q1, q2⟩
          · subst q1
            refine q3 _ _ (.stop ?_)
            first | assumption | omega
          · exact q2
        obtain ⟨hend, hkm⟩ := hend0.ends hn (Tra.nil hn g)
        obtain ⟨m1, m2, m3, m4, m5, m6⟩ := round_ok hn hB hend0
        have hsh := hend.short
        have hfk : (fromK k : Int) = max k 0 := by unfold fromK; omega
        refine WX.region rfl ?_
        refine WXL.move Met.none rfl ?_
        refine WXL.max Met.none rfl rfl ?_
        refine WXL.assign Met.none rfl ?_
        refine WXL.nil ?_
        refine Fin.then_normal ?_
        refine WX.seq ?_
        rw [← hfk]
        refine WX.region rfl ?_
        refine WXL.assign Met.none rfl ?_
        refine WXL.nil ?_
        refine Fin.then_normal ?_
        refine WX.seq ?_
        refine WX.seq ?_
        refine WX.region rfl ?_
        refine WXL.move Met.none rfl ?_
        refine WXL.assign Met.none rfl ?_
        refine WXL.nil ?_
        refine Fin.then_normal ?_
        refine WX.block ?_
        refine WX.loop (fun q : Nat × Int => [(2, Ptr b2 0), (9, .slice a34 g.length c34), (10, .slice aP PL.length cP), (11, .slice aW W.length cW), (12, Row bn 0 (nodesOf n ps).length cn), (13, .slice ae ps.length ce), (15, I k), (18, I (fromK k : Int)), (19, I q.2), (20, I (q.1 : Int))]) (fun q => (bn, ⟨1, false, (nodesOf n ps).map I⟩) :: (b2, ⟨0, false, [I n.nodes, I n.source, I n.sink, .slice a n.edges.length c]⟩) :: (Ge ++ (Gg ++ (GP ++ (GW ++ (Q ++ O)))))) (fun q => q.1 ≤ ps.length ∧ lrA n g q.2 (ps.drop q.1) = minA n g (ps.drop (fromK k))) (fun q => ps.length - q.1) (fromK k, -1) ⟨Nat.le_of_lt hsh, rfl⟩ (fun s hs => hs.tl [0, 1] 2) (fun q hq => ?_)
        obtain ⟨j, x⟩ := q
        obtain ⟨hj, hlr⟩ := hq
        simp only at hj hlr
        dsimp only
        refine WX.seq ?_
        refine WX.seq ?_
        refine WX.region rfl ?_
        refine WXL.move Met.none rfl ?_
        refine WXL.move Met.none rfl ?_
        refine WXL.len Met.none rfl Try.underlying22 ?_
        refine WXL.bin Met.none rfl rfl rfl ?_
        refine WXL.nil ?_
        refine Fin.then_normal ?_
        refine WX.cond rfl (fun hc5 => ?_) (fun hc5 => ?_)
        · try simp only [cnd] at hc5
          refine WX.skip ?_
          refine Fin.then_normal ?_
          refine WX.seq ?_
          refine WX.block ?_
          refine WX.seq ?_
          have hjp : j < ps.length := by omega
          have hok := hend.ok _ (nth_mem hjp)
          have hbn := hB.bnd _ hok.1
          have hjg : (nth ps j).1 < g.length := by omega
          have hdn := drop_nth hjp
          refine WX.draw rfl ?_
          refine WXL.move Met.none rfl ?_
          refine WXL.move Met.none rfl ?_
          refine WXL.move Met.none rfl ?_
          first | refine WXL.ix Met.none rfl rfl elem22 sz3 ?_ | refine WXL.ixS Met.none rfl rfl elem22 sz3 ?_
          first | refine WXL.ld Met.none rfl agg3 ?_ (hv := (cell_map (fun p : Nat × Int => I (p.1 : Int)) ps j hjp)) | refine WXL.ldS Met.none rfl agg3 ?_ (hv := (cell_map (fun p : Nat × Int => I (p.1 : Int)) ps j hjp))
          first | refine WXL.ix Met.none rfl rfl elem22 sz3 ?_ | refine WXL.ixS Met.none rfl rfl elem22 sz3 ?_
          first | refine WXL.ld Met.none rfl agg3 ?_ | refine WXL.ldS Met.none rfl agg3 ?_
          refine WXL.move Met.none rfl ?_
          refine WXL.move Met.none rfl ?_
          refine WXL.move Met.none rfl ?_
          first | refine WXL.ix Met.none rfl rfl elem22 sz3 ?_ | refine WXL.ixS Met.none rfl rfl elem22 sz3 ?_
          first | refine WXL.ld Met.none rfl agg3 ?_ (hv := (cell_map (fun p : Nat × Int => I (p.1 : Int)) ps j hjp)) | refine WXL.ldS Met.none rfl agg3 ?_ (hv := (cell_map (fun p : Nat × Int => I (p.1 : Int)) ps j hjp))
          first | refine WXL.ix Met.none rfl rfl elem22 sz3 ?_ | refine WXL.ixS Met.none rfl rfl elem22 sz3 ?_
          first | refine WXL.ld Met.none rfl agg3 ?_ | refine WXL.ldS Met.none rfl agg3 ?_
          refine WXL.neg Met.none rfl (by first | exact wrap_neg (by omega) (by omega) | exact rfl) ?_
          refine WXL.max Met.none rfl rfl ?_
          rw [amt_max hok.2.2]
          refine WXL.assign Met.none rfl ?_
          refine WXL.nil ?_
          refine Fin.then_normal ?_
          refine WX.seq ?_
          refine WX.region rfl ?_
          refine WXL.move Met.none rfl ?_
          refine WXL.bin Met.none rfl rfl rfl ?_
          refine WXL.move Met.none rfl ?_
          refine WXL.split (d := 113) rfl (fun hg113 => ?_) (fun hg113 => ?_)
          · try simp only [cnd] at hg113
            refine WXL.miss (j := 2) (d := 113) rfl rfl rfl ?_
            refine WXL.miss (j := 2) (d := 113) rfl rfl rfl ?_
            refine WXL.miss (j := 2) (d := 113) rfl rfl rfl ?_
            refine WXL.pick_t Met.none rfl rfl ?_
            refine WXL.nil ?_
            refine Fin.then_normal ?_
            refine WX.cond rfl (fun hc6 => ?_) (fun hc6 => nomatch hc6)
            refine WX.region rfl ?_
            refine WXL.move Met.none rfl ?_
            refine WXL.assign Met.none rfl ?_
            refine WXL.nil ?_
            refine Fin.block_normal ?_
            refine Fin.then_normal ?_
            refine WX.region rfl ?_
            refine WXL.move Met.none rfl ?_
            refine WXL.bin Met.none rfl rfl bvA ?_
            refine WXL.assign Met.none rfl ?_
            refine WXL.nil ?_
            rw [hdn] at hlr
            first
            | exact Fin.loop_next (j + 1, amtTo n g (nth ps j)) ⟨by simp only; omega, (lrA_step1 hok.2.2 (.inl hg113)).symm.trans hlr⟩ (by simp only; omega) (fun s hs => hs.tl [0, 1] 2)
            | exact Fin.loop_next (j + 1, amtTo n g (nth ps j)) ⟨by simp only; omega, (lrA_step1 hok.2.2 (.inr hc6)).symm.trans hlr⟩ (by simp only; omega) (fun s hs => hs.tl [0, 1] 2)
            | exact Fin.loop_next (j + 1, x) ⟨by simp only; omega, (lrA_step2 (Int.not_lt.2 hg113) (Int.not_lt.2 hc6)).symm.trans hlr⟩ (by simp only; omega) (fun s hs => hs.tl [0, 1] 2)
          · try simp only [cnd] at hg113
            refine WXL.move (Met.some rfl rfl rfl) rfl ?_
            refine WXL.move (Met.some rfl rfl rfl) rfl ?_
            refine WXL.bin (Met.some rfl rfl rfl) rfl rfl rfl ?_
            refine WXL.pick_f Met.none rfl rfl ?_
            refine WXL.nil ?_
            refine Fin.then_normal ?_
            refine WX.cond rfl (fun hc6 => ?_) (fun hc6 => ?_)
            · try simp only [cnd] at hc6
              refine WX.region rfl ?_
              refine WXL.move Met.none rfl ?_
              refine WXL.assign Met.none rfl ?_
              refine WXL.nil ?_
              refine Fin.block_normal ?_
              refine Fin.then_normal ?_
              refine WX.region rfl ?_
              refine WXL.move Met.none rfl ?_
              refine WXL.bin Met.none rfl rfl bvA ?_
              refine WXL.assign Met.none rfl ?_
              refine WXL.nil ?_
              rw [hdn] at hlr
              first
              | exact Fin.loop_next (j + 1, amtTo n g (nth ps j)) ⟨by simp only; omega, (lrA_step1 hok.2.2 (.inl hg113)).symm.trans hlr⟩ (by simp only; omega) (fun s hs => hs.tl [0, 1] 2)
              | exact Fin.loop_next (j + 1, amtTo n g (nth ps j)) ⟨by simp only; omega, (lrA_step1 hok.2.2 (.inr hc6)).symm.trans hlr⟩ (by simp only; omega) (fun s hs => hs.tl [0, 1] 2)
              | exact Fin.loop_next (j + 1, x) ⟨by simp only; omega, (lrA_step2 (Int.not_lt.2 hg113) (Int.not_lt.2 hc6)).symm.trans hlr⟩ (by simp only; omega) (fun s hs => hs.tl [0, 1] 2)
            · try simp only [cnd] at hc6
              refine WX.skip ?_
              refine Fin.block_normal ?_
              refine Fin.then_normal ?_
              refine WX.region rfl ?_
              refine WXL.move Met.none rfl ?_
              refine WXL.bin Met.none rfl rfl bvA ?_
              refine WXL.assign Met.none rfl ?_
              refine WXL.nil ?_
              rw [hdn] at hlr
              first
              | exact Fin.loop_next (j + 1, amtTo n g (nth ps j)) ⟨by simp only; omega, (lrA_step1 hok.2.2 (.inl hg113)).symm.trans hlr⟩ (by simp only; omega) (fun s hs => hs.tl [0, 1] 2)
              | exact Fin.loop_next (j + 1, amtTo n g (nth ps j)) ⟨by simp only; omega, (lrA_step1 hok.2.2 (.inr hc6)).symm.trans hlr⟩ (by simp only; omega) (fun s hs => hs.tl [0, 1] 2)
              | exact Fin.loop_next (j + 1, x) ⟨by simp only; omega, (lrA_step2 (Int.not_lt.2 hg113) (Int.not_lt.2 hc6)).symm.trans hlr⟩ (by simp only; omega) (fun s hs => hs.tl [0, 1] 2)
        · try simp only [cnd] at hc5
          refine WX.exit ?_
          refine Fin.then_exit ?_
          refine Fin.loop_exit ?_
          refine Fin.block_hit rfl ?_
          refine Fin.then_normal ?_
          refine WX.seq ?_
          refine WX.seq ?_
          have hjp : j = ps.length := by omega
          subst hjp
          rw [List.drop_length] at hlr
          have hxe := lrA_end hlr m1
          subst hxe
          refine WX.region rfl ?_
          refine WXL.move Met.none rfl ?_
          refine WXL.assign Met.none rfl ?_
          refine WXL.nil ?_
          refine Fin.then_normal ?_
          refine WX.block ?_
          refine WX.loop (fun q : Nat × List Int × Objs => [(2, Ptr b2 0), (9, .slice a34 q.2.1.length c34), (10, .slice aP PL.length cP), (11, .slice aW W.length cW), (12, Row bn 0 (nodesOf n ps).length cn), (13, .slice ae ps.length ce), (15, I k), (19, I (minA n g (ps.drop (fromK k)))), (22, I (q.1 : Int))]) (fun q => (bn, ⟨1, false, (nodesOf n ps).map I⟩) :: (b2, ⟨0, false, [I n.nodes, I n.source, I n.sink, .slice a n.edges.length c]⟩) :: (Ge ++ (q.2.2 ++ (GP ++ (GW ++ (Q ++ O)))))) (fun q => q.1 ≤ ps.length ∧ Chg2 n g (minA n g (ps.drop (fromK k))) (ps.drop (fromK k)) (ps.drop q.1) q.2.1 ∧ Grow 1 a34 q.2.1.length c34 (q.2.1.map I) q.2.2 ∧ fromK k ≤ q.1) (fun q => ps.length - q.1) (fromK k, g, Gg) ⟨Nat.le_of_lt hsh, ⟨rfl, rfl, fun _ _ => rfl, by rw [List.map_drop]; exact (List.drop_sublist _ _).nodup hend.edges⟩, hGg, Nat.le_refl _⟩ (fun s hs => hs.tl [0, 1] 2) (fun q hq => ?_)
          obtain ⟨j, g', Gg'⟩ := q
          obtain ⟨hj, hC, hGg', hjk⟩ := hq
          simp only at hj hC hGg' hjk
          dsimp only
          have hcl := hC.len
          refine WX.seq ?_
          refine WX.seq ?_
          refine WX.region rfl ?_
          refine WXL.move Met.none rfl ?_
          refine WXL.move Met.none rfl ?_
          refine WXL.len Met.none rfl Try.underlying22 ?_
          refine WXL.bin Met.none rfl rfl rfl ?_
          refine WXL.nil ?_
          refine Fin.then_normal ?_
          refine WX.cond rfl (fun hc7 => ?_) (fun hc7 => ?_)
          · try simp only [cnd] at hc7
            refine WX.skip ?_
            refine Fin.then_normal ?_
            refine WX.seq ?_
            refine WX.block ?_
            have hjp : j < ps.length := by omega
            have hok := hend.ok _ (nth_mem hjp)
            have hdn := drop_nth hjp
            rw [hdn] at hC
            have hjn : nth (nodesOf n ps) (j + 1) = (nth ps j).2 := by
              show nth (ps.map (·.2)) j = _
              exact nth_map hjp
            have hsm := hC.same _ (List.mem_cons_self ..)
            have hbn := hB.bnd _ hok.1
            have hjj : (((j : Int) + 1).toNat) = j + 1 := by omega
            refine WX.draw rfl ?_
            refine WXL.ldN (vs := [_, _, _, _]) Met.none rfl agg25 sz25 ?_
            refine WXL.move Met.none rfl ?_
            refine WXL.move Met.none rfl ?_
            refine WXL.move Met.none rfl ?_
            first | refine WXL.ix Met.none rfl rfl elem22 sz3 ?_ | refine WXL.ixS Met.none rfl rfl elem22 sz3 ?_
            first | refine WXL.ld Met.none rfl agg3 ?_ (hv := (cell_map (fun p : Nat × Int => I (p.1 : Int)) ps j hjp)) | refine WXL.ldS Met.none rfl agg3 ?_ (hv := (cell_map (fun p : Nat × Int => I (p.1 : Int)) ps j hjp))
            refine WXL.move Met.none rfl ?_
            refine WXL.move Met.none rfl ?_
            refine WXL.bin Met.none rfl rfl bvA ?_
            first | refine WXL.ix Met.none rfl rfl elem22 sz3 ?_ | refine WXL.ixS Met.none rfl rfl elem22 sz3 ?_
            first | refine WXL.ld Met.none rfl agg3 ?_ (hv := (cell_map I (nodesOf n ps) (j + 1) (by omega))) | refine WXL.ldS Met.none rfl agg3 ?_ (hv := (cell_map I (nodesOf n ps) (j + 1) (by omega)))
            rw [hjn]
            refine WXL.move Met.none rfl ?_
            refine WXL.neg Met.none rfl (by first | exact wrap_neg (by omega) (by omega) | exact rfl) ?_
            refine WXL.cl (O1 := (Gg' ++ ((bn, ⟨1, false, (nodesOf n ps).map I⟩) :: (b2, ⟨0, false, [I n.nodes, I n.source, I n.sink, .slice a n.edges.length c]⟩) :: (Ge ++ (GP ++ (GW ++ (Q ++ O))))))) Met.none rfl (fnOk_of Try.func43 (by decide +kernel)) rfl (fun _ h => by simpa only [List.append_assoc, List.cons_append] using Sat.back (A := (bn, _) :: (b2, _) :: Ge) (G := Gg') h) (change_ok _ Gg' n g' (nth ps j).1 (nth ps j).2 (-(minA n g (ps.drop (fromK k)))) a a34 c c34 src_ hGg' (by omega) (by omega) (fun _ => by unfold In64; rw [hsm]; omega) (fun _ => by unfold In64; rw [hsm]; omega)) (fun v O' hp => ?_)
            obtain ⟨Gg9, hGg9, rfl⟩ := hp
            refine WXL.of (fun s hs => St.via hs (fun h hh => by simpa only [List.append_assoc, List.cons_append] using Sat.swap (G := Gg9) (A := (bn, _) :: (b2, _) :: Ge) hh)) ?_
            refine WXL.nil ?_
            refine Fin.block_normal ?_
            refine Fin.then_normal ?_
            refine WX.region rfl ?_
            refine WXL.move Met.none rfl ?_
            refine WXL.bin Met.none rfl rfl bvA ?_
            refine WXL.assign Met.none rfl ?_
            refine WXL.nil ?_
            have hC2 := hC.next hgl (fun p hp => by
              rw [← hdn] at hp
              exact (hend.ok p (List.mem_of_mem_drop hp)).1)
            exact Fin.loop_next (j + 1, changeR n g' (nth ps j).1 (nth ps j).2 (-(minA n g (ps.drop (fromK k)))), Gg9) ⟨by simp only; omega, hC2, by simp only; rw [changeR_length]; exact hGg9, by simp only; omega⟩ (by simp only; omega) (by simp only [changeR_length]; exact (fun s hs => hs.tl [0, 1] 2))
          · try simp only [cnd] at hc7
            refine WX.exit ?_
            refine Fin.then_exit ?_
            refine Fin.loop_exit ?_
            refine Fin.block_hit rfl ?_
            refine Fin.then_normal ?_
            refine WX.seq ?_
            have hjp : j = ps.length := by omega
            subst hjp
            rw [List.drop_length] at hC
            have hge : g' = changeW n (-(minA n g (ps.drop (fromK k)))) (ps.drop (fromK k)) g := hC.goal
            subst hge
            have habs2 := nz_in n (changeW n (-(minA n g (ps.drop (fromK k)))) (ps.drop (fromK k)) g)
            have hnz := nz_round hn hB hend0
            refine WX.region rfl ?_
            refine WXL.move Met.none rfl ?_
            refine WXL.bin Met.none rfl rfl rfl ?_
            refine WXL.nil ?_
            refine Fin.then_normal ?_
            refine WX.cond rfl (fun hc8 => ?_) (fun hc8 => ?_)
            · try simp only [cnd] at hc8
              refine WX.seq ?_
              refine WX.region rfl ?_
              refine WXL.move Met.none rfl ?_
              refine WXL.move Met.none rfl ?_
              refine WXL.buildSlice (c := [_]) Met.none rfl elem50 sz22 zero22 (by decide) (by decide) rfl rfl rfl rfl (fun b144 => ?_)
              refine WXL.apG ((_, _) :: (bn, _) :: (b2, _) :: (Ge ++ Gg')) Met.none rfl rfl isrow50 elem50 sz22 by22 zero22 (Src.lit (cs := [_])) (fun a145 c145 G145 hG145 => ?_) (hO := (by simp only [List.append_assoc, List.cons_append]; exact rfl))
              refine WXL.of (fun s hs => St.eqv hs (by simp only [List.append_assoc, List.cons_append]; exact rfl)) ?_
              refine WXL.assign Met.none rfl ?_
              refine WXL.nil ?_
              refine Fin.then_normal ?_
              refine WX.region rfl ?_
              refine WXL.move Met.none rfl ?_
              refine WXL.move Met.none rfl ?_
              refine WXL.buildSlice (c := [_]) Met.none rfl elem22 sz3 zero3 (by decide) (by decide) rfl rfl rfl rfl (fun b148 => ?_)
              refine WXL.apG ((_, _) :: (_, _) :: (bn, _) :: (b2, _) :: (Ge ++ (Gg' ++ G145))) Met.none rfl rfl isrow22 elem22 sz3 by3 zero3 (Src.lit (cs := [_])) (fun a149 c149 G149 hG149 => ?_) (hO := (by simp only [List.append_assoc, List.cons_append]; exact rfl))
              refine WXL.assign Met.none rfl ?_
              refine WXL.nil ?_
              refine Fin.block_normal ?_
              first
              | (have hkn : ¬ k < 0 := by omega
                 refine Fin.loop_next (changeW n (-(minA n g (ps.drop (fromK k)))) (ps.drop (fromK k)) g, Gg', PL, Q, (aP, cP, GP), W, (aW, cW, GW), lim) ⟨hGg', m4, fun r hr => hgoal r (.more hs hend0 (by rw [if_neg hkn, if_neg hkn]; exact hr)), hPM, hGP, hGW, by simp only; omega, hWl, hlim2⟩ (by simp only; omega) ?_
                 exact fun s hs => St.tl [0] 1 (St.via hs (fun h hh => Sat.mid (G := [_]) (A := Ge) hh.tail)))
              | (have hkn : k < 0 := hc8
                 have hcnt2 : PL.length + 1 + (nzSum n (changeW n (-(minA n g (ps.drop (fromK k)))) (ps.drop (fromK k)) g)).toNat ≤ lim := by omega
                 have hmu : (nzSum n (changeW n (-(minA n g (ps.drop (fromK k)))) (ps.drop (fromK k)) g)).toNat < (nzSum n g).toNat := by omega
                 have hW' : Grow 1 a149 (W ++ [minA n g (ps.drop (fromK k))]).length c149 ((W ++ [minA n g (ps.drop (fromK k))]).map I) G149 := by
                   rw [List.length_append, List.length_singleton, List.map_append]
                   exact hG149
                 have hP' : Grow 1 a145 (PL ++ [(⟨nodesOf n ps, some ⟨bn, 0, none⟩, (nodesOf n ps).length, cn⟩ : RowP Int)]).length c145 ((PL ++ [(⟨nodesOf n ps, some ⟨bn, 0, none⟩, (nodesOf n ps).length, cn⟩ : RowP Int)]).map encR) G145 := by
                   rw [List.length_append, List.length_singleton, List.map_append]
                   exact hG145
                 have hmp : (PL ++ [(⟨nodesOf n ps, some ⟨bn, 0, none⟩, (nodesOf n ps).length, cn⟩ : RowP Int)]).map (·.l) = PL.map (·.l) ++ [nodesOf n ps] := by simp
                 refine Fin.loop_next (_, Gg', PL ++ [(⟨nodesOf n ps, some ⟨bn, 0, none⟩, (nodesOf n ps).length, cn⟩ : RowP Int)], (bn, ⟨1, false, (nodesOf n ps).map I⟩) :: Q, (a145, c145, G145), W ++ [minA n g (ps.drop (fromK k))], (a149, c149, G149), lim) ⟨hGg', m4, fun r hr => hgoal r (.more hs hend0 (by rw [if_pos hkn, if_pos hkn, ← hmp]; exact hr)), ⟨rfl, fun p hp => ?_⟩, hP', hW', by simp only [List.length_append, List.length_singleton]; exact hcnt2, by simp only [List.length_append, List.length_singleton]; omega, hlim2⟩ hmu ?_
                 · rcases List.mem_append.1 hp with hp | hp
                   · exact ⟨(hPM.row p hp).1, let ⟨b, h1, h2⟩ := (hPM.row p hp).2; ⟨b, h1, h2.cons⟩⟩
                   · rw [List.mem_singleton] at hp
                     subst hp
                     exact ⟨rfl, bn, rfl, Knows.at 0 rfl⟩
                 · simp only [List.length_append, List.length_singleton]
                   exact fun s hs => St.tl [0] 1 (St.via (O' := (b2, ⟨0, false, [I n.nodes, I n.source, I n.sink, .slice a n.edges.length c]⟩) :: (Gg' ++ (G145 ++ (G149 ++ ((bn, ⟨1, false, (nodesOf n ps).map I⟩) :: (Q ++ O)))))) hs (fun h hh => by
                     simp only [List.append_assoc, List.cons_append] at hh
                     have h3 := Sat.mid (G := [_, _]) (A := Ge) hh.tail.tail
                     have h5 := Sat.swap (G := [_]) (A := (b2, _) :: (Gg' ++ (G145 ++ G149))) (R := Q ++ O) (by simpa only [List.append_assoc, List.cons_append, List.nil_append] using h3)
                     simpa only [List.append_assoc, List.cons_append, List.nil_append] using h5)))
            · try simp only [cnd] at hc8
              refine WX.skip ?_
              refine Fin.block_normal ?_
              first
              | (have hkn : ¬ k < 0 := by omega
                 refine Fin.loop_next (changeW n (-(minA n g (ps.drop (fromK k)))) (ps.drop (fromK k)) g, Gg', PL, Q, (aP, cP, GP), W, (aW, cW, GW), lim) ⟨hGg', m4, fun r hr => hgoal r (.more hs hend0 (by rw [if_neg hkn, if_neg hkn]; exact hr)), hPM, hGP, hGW, by simp only; omega, hWl, hlim2⟩ (by simp only; omega) ?_
                 exact fun s hs => St.tl [0] 1 (St.via hs (fun h hh => Sat.mid (G := [_]) (A := Ge) hh.tail)))
              | (have hkn : k < 0 := hc8
                 have hcnt2 : PL.length + 1 + (nzSum n (changeW n (-(minA n g (ps.drop (fromK k)))) (ps.drop (fromK k)) g)).toNat ≤ lim := by omega
                 have hmu : (nzSum n (changeW n (-(minA n g (ps.drop (fromK k)))) (ps.drop (fromK k)) g)).toNat < (nzSum n g).toNat := by omega
                 have hW' : Grow 1 a149 (W ++ [minA n g (ps.drop (fromK k))]).length c149 ((W ++ [minA n g (ps.drop (fromK k))]).map I) G149 := by
                   rw [List.length_append, List.length_singleton, List.map_append]
                   exact hG149
                 have hP' : Grow 1 a145 (PL ++ [(⟨nodesOf n ps, some ⟨bn, 0, none⟩, (nodesOf n ps).length, cn⟩ : RowP Int)]).length c145 ((PL ++ [(⟨nodesOf n ps, some ⟨bn, 0, none⟩, (nodesOf n ps).length, cn⟩ : RowP Int)]).map encR) G145 := by
                   rw [List.length_append, List.length_singleton, List.map_append]
                   exact hG145
                 have hmp : (PL ++ [(⟨nodesOf n ps, some ⟨bn, 0, none⟩, (nodesOf n ps).length, cn⟩ : RowP Int)]).map (·.l) = PL.map (·.l) ++ [nodesOf n ps] := by simp
                 refine Fin.loop_next (_, Gg', PL ++ [(⟨nodesOf n ps, some ⟨bn, 0, none⟩, (nodesOf n ps).length, cn⟩ : RowP Int)], (bn, ⟨1, false, (nodesOf n ps).map I⟩) :: Q, (a145, c145, G145), W ++ [minA n g (ps.drop (fromK k))], (a149, c149, G149), lim) ⟨hGg', m4, fun r hr => hgoal r (.more hs hend0 (by rw [if_pos hkn, if_pos hkn, ← hmp]; exact hr)), ⟨rfl, fun p hp => ?_⟩, hP', hW', by simp only [List.length_append, List.length_singleton]; exact hcnt2, by simp only [List.length_append, List.length_singleton]; omega, hlim2⟩ hmu ?_
                 · rcases List.mem_append.1 hp with hp | hp
                   · exact ⟨(hPM.row p hp).1, let ⟨b, h1, h2⟩ := (hPM.row p hp).2; ⟨b, h1, h2.cons⟩⟩
                   · rw [List.mem_singleton] at hp
                     subst hp
                     exact ⟨rfl, bn, rfl, Knows.at 0 rfl⟩
                 · simp only [List.length_append, List.length_singleton]
                   exact fun s hs => St.tl [0] 1 (St.via (O' := (b2, ⟨0, false, [I n.nodes, I n.source, I n.sink, .slice a n.edges.length c]⟩) :: (Gg' ++ (G145 ++ (G149 ++ ((bn, ⟨1, false, (nodesOf n ps).map I⟩) :: (Q ++ O)))))) hs (fun h hh => by
                     simp only [List.append_assoc, List.cons_append] at hh
                     have h3 := Sat.mid (G := [_, _]) (A := Ge) hh.tail.tail
                     have h5 := Sat.swap (G := [_]) (A := (b2, _) :: (Gg' ++ (G145 ++ G149))) (R := Q ++ O) (by simpa only [List.append_assoc, List.cons_append, List.nil_append] using h3)
                     simpa only [List.append_assoc, List.cons_append, List.nil_append] using h5)))
    · try simp only [cnd] at hc1
      refine WX.exit ?_
      refine Fin.then_exit ?_
      refine Fin.loop_exit ?_
      refine Fin.block_hit rfl ?_
      refine Fin.then_normal ?_
      refine WX.seq ?_
      refine WX.region rfl ?_
      refine WXL.move Met.none rfl ?_
      refine WXL.move Met.none rfl ?_
      refine WXL.assign Met.none rfl ?_
      refine WXL.assign Met.none rfl ?_
      refine WXL.assign Met.none rfl ?_
      refine WXL.nil ?_
      refine Fin.then_normal ?_
      refine WX.ret ?_
      first
      | exact Fin.result (O' := O) (.inr rfl) rfl rfl drop_ ⟨x0, ev, hv, fun _ => ⟨rfl, rfl⟩, fun q => absurd q hc0⟩
      | (have hno : leaveI n g n.source = none := by
           cases hx : leaveI n g n.source with
           | none => rfl
           | some i => unfold leaveZ at hc1; rw [hx] at hc1; simp only at hc1; omega
         exact Fin.result (O' := GP ++ (GW ++ (Q ++ O))) (.inr rfl) rfl rfl (fun _ hs => hs.tail.app_right) ⟨x0, 0, hv, fun q => absurd rfl q, fun _ => ⟨(PL.map (·.l), W), PL, Q, aP, cP, GP, aW, cW, GW, hgoal _ (.done hno), hPM, hGP, hGW, by omega, rfl, rfl⟩⟩)

end Go.Proofs.Ytjmklialkjncaaa.Eng

set_option linter.unusedVariables false
set_option linter.unusedSimpArgs false
namespace Go.Proofs.Ytjmklialkjncaaa.Eng

def leaveArc (n : Net4) (g : List Int) (v : Int) : Arc := match leaveI n g v with
  | some i => arcAt n v.toNat i
  | none => ⟨0, 0, false⟩

theorem leaveV_eq (n : Net4) (g : List Int) (v : Int) : leaveV n g v = .tuple #[aggA (leaveArc n g v), .bool (leaveI n g v).isSome] := by
  unfold leaveV leaveArc
  cases leaveI n g v <;> rfl

def arcTo (n : Net4) (q : Nat × Int) : Arc := ⟨q.1, q.2, decide ((nth n.edges q.1).b = q.2)⟩
def arcsL (n : Net4) (ps : List (Nat × Int)) : List Arc := ps.map (arcTo n)

theorem left_arcTo (n : Net4) (g : List Int) (q : Nat × Int) : leftP g (arcTo n q) = amtTo n g q := by
  unfold leftP arcTo amtTo
  by_cases hb : (nth n.edges q.1).b = q.2
  · simp only [hb, decide_true, if_true]
  · simp only [hb, decide_false, Bool.false_eq_true, if_false]

theorem suf_src {O : Objs} {b c : Nat} {n : Net4} {ps : List (Nat × Int)} (hk : Knows O b ⟨3, false, flat encA (arcsL n ps)⟩) (m : Nat) (hm : m ≤ ps.length) :
    Src O 3 (.slice (some ⟨b, 0 + m * 3, none⟩) (ps.length - m) c) (ps.length - m) (flat encA ((arcsL n ps).drop m)) := by
  have hl : (arcsL n ps).length = ps.length := by unfold arcsL; simp
  refine Src.of hk ?_ ?_
  · show 0 + m * 3 + (ps.length - m) * 3 ≤ (flat encA (arcsL n ps)).length
    rw [flat_length encA_len, hl]
    omega
  · show ((flat encA (arcsL n ps)).drop (0 + m * 3)).take ((ps.length - m) * 3) = _
    have e : ∀ (l : List Arc) (m : Nat), (flat encA l).drop (m * 3) = flat encA (l.drop m) := by
      intro l
      induction l with
      | nil => intro m; simp [flat]
      | cons x l ih =>
        intro m
        cases m with
        | zero => rfl
        | succ m =>
          rw [flat_cons, List.drop_succ_cons, ← ih m, show (m + 1) * 3 = 3 + m * 3 by omega, ← List.drop_drop]
          congr 1
    rw [Nat.zero_add, e, List.take_of_length_le]
    rw [flat_length encA_len, List.length_drop, hl]
    omega

theorem nth_drop {α : Type} [Inhabited α] (l : List α) (m j : Nat) : nth (l.drop m) j = nth l (m + j) := by
  unfold nth
  rw [List.getD_eq_getElem?_getD, List.getD_eq_getElem?_getD, List.getElem?_drop]

theorem paths_ok (O : Objs) (n : Net4) (f : List Int) (a af : Option Addr) (c cf : Nat) (hlen : n.edges.length ≤ 1000) (hnil : af = none → f = []) (hl : Edges O n a c) (hf : Src O 1 (.slice af f.length cf) f.length (f.map I)) :
    Spec Try.prog false 30 #[netV n a c, .slice af f.length cf] O (PathsOut n f O) := by
  refine Spec.enter (args := [_, _]) (m := 138) Try.func30 rfl rfl (by decide +kernel) fun h0 => ?_
  refine WX.seq ?_
  refine WX.region rfl ?_
  refine WXL.box (c := [_, _, _, _]) Met.none rfl rfl rfl (fun b2 => ?_)
  refine WXL.assign Met.none rfl ?_
  refine WXL.assign Met.none rfl ?_
  refine WXL.assign Met.none rfl ?_
  refine WXL.nil ?_
  refine Fin.then_normal ?_
  refine WX.seq ?_
  refine WX.seq ?_
  refine WX.region rfl ?_
  refine WXL.ldN (vs := [_, _, _, _]) Met.none rfl agg36 sz36 ?_
  refine WXL.move Met.none rfl ?_
  refine WXL.cl (O1 := _) Met.none rfl (fnOk_of Try.func23 (by decide +kernel)) rfl (fun _ h => h) (value_ok _ n f a af c cf (by omega) src_ src_) (fun v O' hp => ?_)
  obtain ⟨x0, ev, rfl, hv, rfl⟩ := hp
  refine WXL.move Met.none rfl ?_
  refine WXL.extract Met.none rfl rfl ?_
  refine WXL.extract Met.none rfl rfl ?_
  refine WXL.assign Met.none rfl ?_
  refine WXL.assign Met.none rfl ?_
  refine WXL.nil ?_
  refine Fin.then_normal ?_
  refine WX.seq ?_
  refine WX.region rfl ?_
  refine WXL.move Met.none rfl ?_
  refine WXL.bin Met.none rfl rfl rfl ?_
  refine WXL.nil ?_
  refine Fin.then_normal ?_
  refine WX.cond rfl (fun hc0 => ?_) (fun hc0 => ?_)
  · try simp only [cnd] at hc0
    refine WX.seq ?_
    refine WX.region rfl ?_
    refine WXL.move Met.none rfl ?_
    refine WXL.assign Met.none rfl ?_
    refine WXL.assign Met.none rfl ?_
    refine WXL.assign Met.none rfl ?_
    refine WXL.nil ?_
    refine Fin.then_normal ?_
    refine WX.ret ?_
    refine Fin.then_ret ?_
    first
    | exact Fin.result (O' := O) (.inr rfl) rfl rfl drop_ ⟨x0, ev, hv, fun _ => ⟨rfl, rfl⟩, fun q => absurd q hc0⟩
    | (have hno : leaveI n g n.source = none := by
         cases hx : leaveI n g n.source with
         | none => rfl
         | some i => rw [hx] at hc1; cases hc1
       exact Fin.result (O' := GP ++ (GW ++ (Q ++ O))) (.inr rfl) rfl rfl (fun _ hs => (Sat.tl (O' := Gs.flatten ++ (Gg ++ (GP ++ (GW ++ (Q ++ O))))) [] 6 hs).app_right.app_right) ⟨x0, 0, hv, fun q => absurd rfl q, fun _ => ⟨(PL.map (·.l), W), PL, Q, aP, cP, GP, aW, cW, GW, hgoal _ (.done hno), hPM, hGP, hGW, by omega, rfl, rfl⟩⟩)
  · try simp only [cnd] at hc0
    refine WX.skip ?_
    refine Fin.then_normal ?_
    refine WX.seq ?_
    have hk0 : ev = 0 := by omega
    subst hk0
    obtain ⟨hn, hfo, hx⟩ := hv.ok
    have hbal := hfo.bal hn
    have hfl := hbal.len
    have hlim := nz_in n f
    have hns := hn.source
    have hnk := hn.sink
    have hnn := hn.nodes
    refine WX.draw rfl ?_
    refine WXL.move Met.none rfl ?_
    refine WXL.cl (O1 := _) Met.none rfl (fnOk_of Try.func48 (by decide +kernel)) rfl (fun _ h => h) (clone_q _ f af cf (by unfold Short; omega) hnil src_ (by omega)) (fun v O' hp => ?_)
    obtain ⟨ag, cg, G0, rfl, hG0, rfl⟩ := hp
    refine WXL.of (fun s hs => St.swap (G := G0) [_] hs) ?_
    refine WXL.ldN (vs := [_, _, _, _]) Met.none rfl agg36 sz36 ?_
    refine WXL.cl (O1 := _) Met.none rfl (fnOk_of Try.func36 (by decide +kernel)) rfl (fun _ h => h) (arcs_q _ n a c hn src_) (fun v O' hp => ?_)
    obtain ⟨bA, cA, A, C, Gs, rfl, hR, rfl⟩ := hp
    refine WXL.of (fun s hs => St.swap (G := (bA, _) :: Gs.flatten) [_] hs) ?_
    refine WXL.alloc (c := [_]) Met.none zero22 rfl (fun b9 => ?_)
    refine WXL.alloc (c := [_]) Met.none zero72 rfl (fun b10 => ?_)
    refine WXL.st (vs := [_]) (c' := [_]) Met.none rfl rfl rfl sz22 ?_
    refine WXL.st (vs := [_]) (c' := [_]) Met.none rfl rfl rfl sz72 ?_
    refine WXL.nil ?_
    refine Fin.then_normal ?_
    refine WX.seq ?_
    refine WX.region rfl ?_
    refine WXL.makeFunc Met.none rfl rfl ?_
    refine WXL.alloc (c := [_]) Met.none zero89 rfl (fun b11 => ?_)
    refine WXL.st (vs := [_]) (c' := [_]) Met.none rfl rfl rfl sz89 ?_
    refine WXL.nil ?_
    refine Fin.then_normal ?_
    refine WX.seq ?_
    refine WX.region rfl ?_
    refine WXL.makeFunc Met.none rfl rfl ?_
    refine WXL.assign Met.none rfl ?_
    refine WXL.nil ?_
    refine Fin.then_normal ?_
    refine WX.seq ?_
    refine WX.region rfl ?_
    refine WXL.assign Met.none rfl ?_
    refine WXL.nil ?_
    refine Fin.then_normal ?_
    refine WX.seq ?_
    refine WX.region rfl ?_
    refine WXL.assign Met.none rfl ?_
    refine WXL.nil ?_
    refine Fin.then_normal ?_
    refine WX.block ?_
    refine WX.loop (fun q : List Int × Objs × List (RowP Int) × Objs × (Option Addr × Nat × Objs) × List Int × (Option Addr × Nat × Objs) => [(2, Ptr b2 0), (9, Ptr b9 0), (11, Ptr b11 0), (12, .func (.func 50) #[] #[Ptr b10 0, Ptr b11 0]), (13, .slice q.2.2.2.2.1.1 q.2.2.1.length q.2.2.2.2.1.2.1), (14, .slice q.2.2.2.2.2.2.1 q.2.2.2.2.2.1.length q.2.2.2.2.2.2.2.1)]) (fun q => (b11, ⟨0, false, [LeftV b9]⟩) :: (b10, ⟨0, false, [.slice (some ⟨bA, 0, none⟩) n.nodes.toNat cA]⟩) :: (b9, ⟨0, false, [.slice ag q.1.length cg]⟩) :: (b2, ⟨0, false, [I n.nodes, I n.source, I n.sink, .slice a n.edges.length c]⟩) :: (bA, ⟨1, false, rowsV n n.edges.length A C⟩) :: (Gs.flatten ++ (q.2.1 ++ (q.2.2.2.2.1.2.2 ++ (q.2.2.2.2.2.2.2.2 ++ (q.2.2.2.1 ++ O)))))) (fun q => Grow 1 ag q.1.length cg (q.1.map I) q.2.1 ∧ Bal n q.1 ∧ (∀ r, PathsTo n q.1 (q.2.2.1.map (·.l)) q.2.2.2.2.2.1 r → PathsTo n f [] [] r) ∧ PathMem (q.2.2.1.map (·.l)) q.2.2.1 q.2.2.2.1 ∧ Grow 1 q.2.2.2.2.1.1 q.2.2.1.length q.2.2.2.2.1.2.1 (q.2.2.1.map encR) q.2.2.2.2.1.2.2 ∧ Grow 1 q.2.2.2.2.2.2.1 q.2.2.2.2.2.1.length q.2.2.2.2.2.2.2.1 (q.2.2.2.2.2.1.map I) q.2.2.2.2.2.2.2.2 ∧ q.2.2.1.length + (nzSum n q.1).toNat ≤ n.edges.length ∧ q.2.2.2.2.2.1.length = q.2.2.1.length) (fun q => (nzSum n q.1).toNat) (f, G0, [], [], (none, 0, []), [], (none, 0, [])) ⟨hG0, hbal, fun r hr => hr, ⟨rfl, fun p hp => by simp at hp⟩, .nil, .nil, by simp only [List.length_nil]; omega, rfl⟩ ?_ (fun q hq => ?_)
    · exact fun s hs => hs.tl [0, 1, 2, 3, 4] 5 (hO := by simp only [List.nil_append]; exact rfl)
    obtain ⟨g, Gg, PL, Q, ⟨aP, cP, GP⟩, W, ⟨aW, cW, GW⟩⟩ := q
    obtain ⟨hGg, hB, hgoal, hPM, hGP, hGW, hcnt, hWl⟩ := hq
    simp only at hGg hB hgoal hPM hGP hGW hcnt hWl
    dsimp only
    have hgl := hB.len
    have hab := nz_in n g
    have hg64 : ∀ i, i < g.length → -9223372036854775807 ≤ nth g i ∧ nth g i ≤ 9223372036854775807 := fun i hi => by
      have := hB.bnd i (by omega)
      omega
    refine WX.block ?_
    refine WX.seq ?_
    refine WX.seq ?_
    refine WX.region rfl ?_
    refine WXL.move Met.none rfl ?_
    refine WXL.fieldAddr (off' := 1) Met.none rfl Try.underlying36 rfl sz3 rfl ?_
    first | refine WXL.ld Met.none rfl agg3 ?_ | refine WXL.ldS Met.none rfl agg3 ?_
    refine WXL.cl (O1 := _) Met.none rfl (fnOk_of Try.func50 (by decide +kernel)) rfl (fun _ h => h) (leave_ok _ n g n.source b9 b11 b10 (some ⟨bA, 0, none⟩) ag cA cg A C hn hns at_ at_ at_ src_ hgl hg64 (Src.whole at_ (by rw [rows_len]; omega)) (fun u hu => Src.cons (Src.cons (Src.cons (Src.cons (Src.cons (hR.src _ hu))))))) (fun v O' hp => ?_)
    obtain ⟨rfl, hO⟩ := hp
    subst O'
    rw [leaveV_eq]
    refine WXL.move Met.none rfl ?_
    refine WXL.extract Met.none rfl rfl ?_
    refine WXL.extract Met.none rfl rfl ?_
    refine WXL.alloc (c := [_, _, _]) Met.none zero79 rfl (fun b15 => ?_)
    refine WXL.st (vs := [_, _, _]) (c' := [_, _, _]) Met.none rfl rfl rfl sz79 ?_
    refine WXL.assign Met.none rfl ?_
    refine WXL.nil ?_
    refine Fin.then_normal ?_
    refine WX.seq ?_
    refine WX.region rfl ?_
    refine WXL.move Met.none rfl ?_
    refine WXL.not Met.none rfl ?_
    refine WXL.nil ?_
    refine Fin.then_normal ?_
    refine WX.cond rfl (fun hc1 => ?_) (fun hc1 => ?_)
    · try simp only [cnd] at hc1
      refine WX.seq ?_
      refine WX.region rfl ?_
      refine WXL.move Met.none rfl ?_
      refine WXL.move Met.none rfl ?_
      refine WXL.assign Met.none rfl ?_
      refine WXL.assign Met.none rfl ?_
      refine WXL.assign Met.none rfl ?_
      refine WXL.nil ?_
      refine Fin.then_normal ?_
      refine WX.ret ?_
      refine Fin.then_ret ?_
      refine Fin.block_ret ?_
      refine Fin.loop_ret ?_
      refine Fin.block_ret ?_
      first
      | exact Fin.result (O' := O) (.inr rfl) rfl rfl drop_ ⟨x0, ev, hv, fun _ => ⟨rfl, rfl⟩, fun q => absurd q hc0⟩
      | (have hno : leaveI n g n.source = none := by
           cases hx : leaveI n g n.source with
           | none => rfl
           | some i => rw [hx] at hc1; cases hc1
         exact Fin.result (O' := GP ++ (GW ++ (Q ++ O))) (.inr rfl) rfl rfl (fun _ hs => (Sat.tl (O' := Gs.flatten ++ (Gg ++ (GP ++ (GW ++ (Q ++ O))))) [] 6 hs).app_right.app_right) ⟨x0, 0, hv, fun q => absurd rfl q, fun _ => ⟨(PL.map (·.l), W), PL, Q, aP, cP, GP, aW, cW, GW, hgoal _ (.done hno), hPM, hGP, hGW, by omega, rfl, rfl⟩⟩)
    · try simp only [cnd] at hc1
      refine WX.skip ?_
      refine Fin.then_normal ?_
      refine WX.seq ?_
      have hs : leaveI n g n.source ≠ none := fun e => by rw [e] at hc1; cases hc1
      refine WX.region rfl ?_
      refine WXL.fieldAddr (off' := 1) Met.none rfl Try.underlying36 rfl sz3 rfl ?_
      first | refine WXL.ld Met.none rfl agg3 ?_ | refine WXL.ldS Met.none rfl agg3 ?_
      refine WXL.buildSlice (c := [_]) Met.none rfl elem22 sz3 zero3 (by decide) (by decide) rfl rfl rfl rfl (fun b55 => ?_)
      refine WXL.assign Met.none rfl ?_
      refine WXL.assign Met.none rfl ?_
      refine WXL.assign Met.none rfl ?_
      refine WXL.nil ?_
      refine Fin.then_normal ?_
      refine WX.seq ?_
      refine WX.block ?_
      refine WX.loop (fun q : List (Nat × Int) × Nat × Nat × Option Addr × Nat × Objs × Int => [(2, Ptr b2 0), (9, Ptr b9 0), (11, Ptr b11 0), (12, .func (.func 50) #[] #[Ptr b10 0, Ptr b11 0]), (13, .slice aP PL.length cP), (14, .slice aW W.length cW), (17, Row q.2.1 0 (q.1.length + 1) q.2.2.1), (18, .slice q.2.2.2.1 q.1.length q.2.2.2.2.1), (19, I q.2.2.2.2.2.2)]) (fun q => (q.2.1, ⟨1, false, (nodesOf n q.1).map I⟩) :: (b11, ⟨0, false, [LeftV b9]⟩) :: (b10, ⟨0, false, [.slice (some ⟨bA, 0, none⟩) n.nodes.toNat cA]⟩) :: (b9, ⟨0, false, [.slice ag g.length cg]⟩) :: (b2, ⟨0, false, [I n.nodes, I n.source, I n.sink, .slice a n.edges.length c]⟩) :: (bA, ⟨1, false, rowsV n n.edges.length A C⟩) :: (q.2.2.2.2.2.1 ++ (Gs.flatten ++ (Gg ++ (GP ++ (GW ++ (Q ++ O))))))) (fun q => Grow 3 q.2.2.2.1 q.1.length q.2.2.2.2.1 (flat encA (arcsL n q.1)) q.2.2.2.2.2.1 ∧ q.1.length ≤ n.edges.length ∧ ((q.2.2.2.2.2.2 = -1 ∧ Tra n g q.1 ∧ ∀ ps' k', TrTo n g q.1 ps' k' → TrTo n g [] ps' k') ∨ (0 ≤ q.2.2.2.2.2.2 ∧ TrTo n g [] q.1 q.2.2.2.2.2.2))) (fun q => n.edges.length + 1 - q.1.length) ([], b55, 1, none, 0, [], -1) ⟨.nil, by simp, .inl ⟨rfl, Tra.nil hn g, fun _ _ h => h⟩⟩ ?_ (fun q hq => ?_)
      · exact fun s hs => hs.tl [0, 2, 3, 4, 5, 6] 7
      obtain ⟨ps, bn, cn, ae, ce, Ge, k⟩ := q
      obtain ⟨hGe, hpl, htr⟩ := hq
      simp only at hGe hpl htr
      dsimp only
      have hnl := nodesOf_len n ps
      have hcn := curr_nth n ps
      refine WX.seq ?_
      refine WX.seq ?_
      refine WX.draw rfl ?_
      refine WXL.move Met.none rfl ?_
      refine WXL.bin Met.none rfl rfl rfl ?_
      refine WXL.move Met.none rfl ?_
      refine WXL.split (d := 58) rfl (fun hg58 => ?_) (fun hg58 => ?_)
      · try simp only [cnd] at hg58
        refine WXL.move (Met.some rfl rfl rfl) rfl ?_
        refine WXL.move (Met.some rfl rfl rfl) rfl ?_
        refine WXL.len (Met.some rfl rfl rfl) rfl Try.underlying22 ?_
        refine WXL.bin (Met.some rfl rfl rfl) rfl rfl bvS ?_
        first | refine WXL.ix (Met.some rfl rfl rfl) rfl rfl elem22 sz3 ?_ (ho := (show 0 + ((((ps.length + 1 : Nat) : Int) - 1).toNat) * 1 = ps.length from by omega)) | refine WXL.ixS (Met.some rfl rfl rfl) rfl rfl elem22 sz3 ?_ (ho := (show 0 + ((((ps.length + 1 : Nat) : Int) - 1).toNat) * 1 = ps.length from by omega))
        first | refine WXL.ld (Met.some rfl rfl rfl) rfl agg3 ?_ (hv := (cell_map I (nodesOf n ps) ps.length (by omega))) | refine WXL.ldS (Met.some rfl rfl rfl) rfl agg3 ?_ (hv := (cell_map I (nodesOf n ps) ps.length (by omega)))
        try rw [hcn]
        refine WXL.fieldAddr (off' := 2) (Met.some rfl rfl rfl) rfl Try.underlying36 rfl sz3 rfl ?_
        first | refine WXL.ld (Met.some rfl rfl rfl) rfl agg3 ?_ | refine WXL.ldS (Met.some rfl rfl rfl) rfl agg3 ?_
        refine WXL.bin (Met.some rfl rfl rfl) rfl rfl rfl ?_
        refine WXL.pick_t Met.none rfl rfl ?_
        refine WXL.nil ?_
        refine Fin.then_normal ?_
        refine WX.cond rfl (fun hc2 => ?_) (fun hc2 => ?_)
        · try simp only [cnd] at hc2
          refine WX.skip ?_
          refine Fin.then_normal ?_
          refine WX.block ?_
          refine WX.seq ?_
          obtain ⟨hk1, hT, htg⟩ : k = -1 ∧ Tra n g ps ∧ ∀ ps' k', TrTo n g ps ps' k' → TrTo n g [] ps' k' := by
            rcases htr with q | q
            · exact q
            · omega
          subst hk1
          have hcs : curr n ps ≠ n.sink := by first | assumption | omega
          obtain ⟨i, hi⟩ := hT.more hn hB hs hcs
          obtain ⟨hie, hig⟩ := leave_is hi
          have hcin := hT.inside _ (curr_mem n ps)
          have hgn := (goes_next hn hie hig).2.2.2.2.2.2.2
          have harc : leaveArc n g (curr n ps) = arcTo n (i, nextOf n ps i) := by
            unfold leaveArc
            rw [hi]
            exact hgn
          have hsome : (leaveI n g (curr n ps)).isSome = true := by rw [hi]; rfl
          refine WX.region rfl ?_
          refine WXL.move Met.none rfl ?_
          refine WXL.move Met.none rfl ?_
          refine WXL.move Met.none rfl ?_
          refine WXL.len Met.none rfl Try.underlying22 ?_
          refine WXL.bin Met.none rfl rfl bvS ?_
          first | refine WXL.ix Met.none rfl rfl elem22 sz3 ?_ (ho := (show 0 + ((((ps.length + 1 : Nat) : Int) - 1).toNat) * 1 = ps.length from by omega)) | refine WXL.ixS Met.none rfl rfl elem22 sz3 ?_ (ho := (show 0 + ((((ps.length + 1 : Nat) : Int) - 1).toNat) * 1 = ps.length from by omega))
          first | refine WXL.ld Met.none rfl agg3 ?_ (hv := (cell_map I (nodesOf n ps) ps.length (by omega))) | refine WXL.ldS Met.none rfl agg3 ?_ (hv := (cell_map I (nodesOf n ps) ps.length (by omega)))
          rw [hcn]
          refine WXL.cl (O1 := _) Met.none rfl (fnOk_of Try.func50 (by decide +kernel)) rfl (fun _ h => h) (leave_ok _ n g (curr n ps) b9 b11 b10 (some ⟨bA, 0, none⟩) ag cA cg A C hn hcin at_ at_ at_ src_ hgl hg64 (Src.whole at_ (by rw [rows_len]; omega)) (fun u hu => Src.cons (Src.cons (Src.cons (Src.cons (Src.cons (Src.cons (Src.app (hR.src _ hu))))))))) (fun v O' hp => ?_)
          obtain ⟨rfl, hO⟩ := hp
          subst O'
          rw [leaveV_eq, harc]
          refine WXL.move Met.none rfl ?_
          refine WXL.extract Met.none rfl rfl ?_
          refine WXL.extract Met.none rfl rfl ?_
          refine WXL.alloc (c := [_, _, _]) Met.none zero79 rfl (fun b20 => ?_)
          refine WXL.st (vs := [_, _, _]) (c' := [_, _, _]) Met.none rfl rfl rfl sz79 ?_
          refine WXL.assign Met.none rfl ?_
          refine WXL.nil ?_
          refine Fin.then_normal ?_
          refine WX.seq ?_
          refine WX.seq ?_
          refine WX.region rfl ?_
          refine WXL.move Met.none rfl ?_
          refine WXL.not Met.none rfl ?_
          refine WXL.nil ?_
          refine Fin.then_normal ?_
          refine WX.cond rfl (fun hc3 => ?_) (fun hc3 => ?_)
          · try simp only [cnd] at hc3
            exact absurd (hsome.symm.trans hc3) (by decide) --end
          · try simp only [cnd] at hc3
            refine WX.skip ?_
            refine Fin.then_normal ?_
            refine WX.seq ?_
            refine WX.region rfl ?_
            refine WXL.move Met.none rfl ?_
            refine WXL.fieldAddr (off' := 1) Met.none rfl Try.underlying79 rfl sz3 rfl ?_
            first | refine WXL.ld Met.none rfl agg3 ?_ | refine WXL.ldS Met.none rfl agg3 ?_
            rw [← hnl]
            refine WXL.cl (O1 := _) Met.none rfl (fnOk_of Try.func53 (by decide +kernel)) rfl (fun _ h => h) (index_ok _ (nodesOf n ps) (nextOf n ps i) (some ⟨bn, 0, none⟩) cn (by omega) (Src.whole at_ (by simp))) (fun v O' hp => ?_)
            obtain ⟨rfl, hO⟩ := hp
            subst O'
            refine WXL.assign Met.none rfl ?_
            refine WXL.nil ?_
            refine Fin.then_normal ?_
            rw [hnl]
            refine WX.draw rfl ?_
            refine WXL.move Met.none rfl ?_
            refine WXL.fieldAddr (off' := 1) Met.none rfl Try.underlying79 rfl sz3 rfl ?_
            first | refine WXL.ld Met.none rfl agg3 ?_ | refine WXL.ldS Met.none rfl agg3 ?_
            refine WXL.buildSlice (c := [_]) Met.none rfl elem22 sz3 zero3 (by decide) (by decide) rfl rfl rfl rfl (fun b89 => ?_)
            refine WXL.ap Met.none rfl rfl isrow22 elem22 sz3 by3 zero3 (Src.lit (cs := [_])) (fun b90 => ?_) (hl := (by rw [List.length_map, hnl]; omega)) (hc := (show _ = (nodesOf n (ps ++ [(i, nextOf n ps i)])).map I from by rw [nodesOf_snoc, List.map_append, List.drop_zero]; rfl))
            refine WXL.move Met.none rfl ?_
            refine WXL.ldN (vs := [_, _, _]) Met.none rfl agg79 sz79 ?_
            refine WXL.buildSlice (c := [_, _, _]) Met.none rfl elem74 sz79 zero79 (by decide) (by decide) rfl rfl rfl rfl (fun b93 => ?_)
            refine WXL.apG [_, _, _, _, _, _, _, _, _] Met.none rfl rfl isrow74 elem74 sz79 by79 zero79 (Src.lit (cs := [_, _, _])) (fun a94 c94 G94 hG94 => ?_)
            refine WXL.assign Met.none rfl ?_
            refine WXL.assign Met.none rfl ?_
            refine WXL.nil ?_
            refine Fin.block_normal ?_
            have hE94 : Grow 3 a94 (ps ++ [(i, nextOf n ps i)]).length c94 (flat encA (arcsL n (ps ++ [(i, nextOf n ps i)]))) G94 := by
              unfold arcsL
              rw [List.length_append, List.length_singleton, List.map_append, flat_append]
              exact hG94
            by_cases hm : nextOf n ps i ∈ nodesOf n ps
            · have hend := htg _ _ (.circ hcs hi hm)
              have hlen2 := (hend.ends hn (Tra.nil hn g)).1.len
              rw [List.length_append, List.length_singleton] at hlen2
              obtain ⟨jj, j1, j2, j3⟩ := idxZ_pos hm
              refine Fin.loop_next (ps ++ [(i, nextOf n ps i)], b90, ps.length + 1 + 1, a94, c94, G94, idxZ (nodesOf n ps) (nextOf n ps i)) ⟨hE94, by simp only [List.length_append, List.length_singleton]; omega, .inr ⟨by simp only; rw [j1]; omega, hend⟩⟩ (by simp only [List.length_append, List.length_singleton]; omega) ?_
              simp only [List.length_append, List.length_singleton]
              exact (fun s hs => hs.tl [3, 4, 5, 6, 7, 8] 9)
            · have hT2 := hT.snoc hn hi hm
              have hlen2 := len_of_nodup hT2.edges (m := n.edges.length) (fun x hx => by
                obtain ⟨q, hq, rfl⟩ := List.mem_map.1 hx
                exact (hT2.ok q hq).1)
              rw [List.length_map, List.length_append, List.length_singleton] at hlen2
              refine Fin.loop_next (ps ++ [(i, nextOf n ps i)], b90, ps.length + 1 + 1, a94, c94, G94, idxZ (nodesOf n ps) (nextOf n ps i)) ⟨hE94, by simp only [List.length_append, List.length_singleton]; omega, .inl ⟨idxZ_neg hm, hT2, fun ps' k' h => htg ps' k' (.step hcs hi hm h)⟩⟩ (by simp only [List.length_append, List.length_singleton]; omega) ?_
              simp only [List.length_append, List.length_singleton]
              exact (fun s hs => hs.tl [3, 4, 5, 6, 7, 8] 9)
        · try simp only [cnd] at hc2
          refine WX.exit ?_
          refine Fin.then_exit ?_
          refine Fin.loop_exit ?_
          refine Fin.block_hit rfl ?_
          refine Fin.then_normal ?_
          refine WX.seq ?_
          have hend0 : TrTo n g [] ps k := by
            rcases htr with ⟨q1, q2, q3⟩ | ⟨q1, q2⟩
            · subst q1
              refine q3 _ _ (.stop ?_)
              first | assumption | omega
            · exact q2
          obtain ⟨hend, hkm⟩ := hend0.ends hn (Tra.nil hn g)
          obtain ⟨m1, m2, m3, m4, m5, m6⟩ := round_ok hn hB hend0
          have hsh := hend.short
          have hfk : (fromK k : Int) = max k 0 := by unfold fromK; omega
          obtain ⟨bw, rfl, rfl, hbwl⟩ := hGe.row_of (by omega)
          have hal : (arcsL n ps).length = ps.length := by unfold arcsL; simp
          have hat : ∀ j, j < ps.length - fromK k → nth ((arcsL n ps).drop (fromK k)) j = arcTo n (nth ps (fromK k + j)) := fun j hj => by
            rw [nth_drop]
            exact nth_map (by omega)
          refine WX.region rfl ?_
          refine WXL.move Met.none rfl ?_
          refine WXL.move Met.none rfl ?_
          refine WXL.max Met.none rfl rfl ?_
          refine WXL.suf (cs := []) (m := (fromK k)) Met.none rfl rfl elem74 sz79 rfl (Knows.at 6 rfl) rfl ?_
          refine WXL.assign Met.none rfl ?_
          refine WXL.nil ?_
          refine Fin.then_normal ?_
          refine WX.seq ?_
          refine WX.draw rfl ?_
          first | refine WXL.ld Met.none rfl agg89 ?_ | refine WXL.ldS Met.none rfl agg89 ?_
          refine WXL.move Met.none rfl ?_
          first | refine WXL.ix Met.none rfl rfl elem74 sz79 ?_ (ho := (show 0 + fromK k * 3 + (0 : Int).toNat * 3 = fromK k * 3 from by omega)) | refine WXL.ixS Met.none rfl rfl elem74 sz79 ?_ (ho := (show 0 + fromK k * 3 + (0 : Int).toNat * 3 = fromK k * 3 from by omega))
          first | refine WXL.ldN Met.none rfl agg79 sz79 ?_ (hv := (cellsAt_flat encA_len (arcsL n ps) (fromK k) (by omega))) | refine WXL.ldNS Met.none rfl agg79 sz79 ?_ (hv := (cellsAt_flat encA_len (arcsL n ps) (fromK k) (by omega)))
          have hat0 := hat 0 (by omega)
          rw [nth_drop, Nat.add_zero] at hat0
          rw [hat0]
          have hok0 := hend.ok _ (nth_mem hsh)
          refine WXL.cl (O1 := _) Met.none rfl (fnOk_of Try.func49 (by decide +kernel)) rfl (fun _ h => h) (left_ok _ g (arcTo n (nth ps (fromK k))) b9 ag cg at_ src_ (by show (nth ps (fromK k)).1 < g.length; omega) (hg64 _ (by show (nth ps (fromK k)).1 < g.length; omega))) (fun v O' hp => ?_)
          obtain ⟨rfl, hO⟩ := hp
          subst O'
          rw [left_arcTo]
          refine WXL.assign Met.none rfl ?_
          refine WXL.nil ?_
          refine Fin.then_normal ?_
          refine WX.seq ?_
          refine WX.seq ?_
          refine WX.region rfl ?_
          refine WXL.move Met.none rfl ?_
          refine WXL.len Met.none rfl Try.underlying74 ?_
          refine WXL.move Met.none rfl ?_
          refine WXL.nil ?_
          refine Fin.then_normal ?_
          refine WX.block ?_
          refine WX.loop (fun q : Nat × Int => [(2, Ptr b2 0), (9, Ptr b9 0), (11, Ptr b11 0), (12, .func (.func 50) #[] #[Ptr b10 0, Ptr b11 0]), (13, .slice aP PL.length cP), (14, .slice aW W.length cW), (17, Row bn 0 (ps.length + 1) cn), (18, .slice (some ⟨bw, 0 + fromK k * 3, none⟩) (ps.length - fromK k) (ps.length - fromK k)), (19, I k), (22, I q.2), (104, .slice (some ⟨bw, 0 + fromK k * 3, none⟩) (ps.length - fromK k) (ps.length - fromK k)), (105, I ((ps.length - fromK k : Nat) : Int)), (106, I (q.1 : Int))]) (fun q => (bn, ⟨1, false, (nodesOf n ps).map I⟩) :: (b11, ⟨0, false, [LeftV b9]⟩) :: (b10, ⟨0, false, [.slice (some ⟨bA, 0, none⟩) n.nodes.toNat cA]⟩) :: (b9, ⟨0, false, [.slice ag g.length cg]⟩) :: (b2, ⟨0, false, [I n.nodes, I n.source, I n.sink, .slice a n.edges.length c]⟩) :: (bA, ⟨1, false, rowsV n n.edges.length A C⟩) :: (bw, ⟨3, false, flat encA (arcsL n ps)⟩) :: (Gs.flatten ++ (Gg ++ (GP ++ (GW ++ (Q ++ O)))))) (fun q => q.1 ≤ ps.length - fromK k ∧ leastA n g q.2 (ps.drop (fromK k + q.1)) = minA n g (ps.drop (fromK k))) (fun q => ps.length - fromK k - q.1) (0, amtTo n g (nth ps (fromK k))) ⟨Nat.zero_le _, by
            simp only [Nat.add_zero]
            rw [drop_nth hsh]
            rfl⟩ (fun s hs => hs.tl [0, 1, 2, 3, 4, 5, 6] 7) (fun q hq => ?_)
          obtain ⟨j, x⟩ := q
          obtain ⟨hj, hlr⟩ := hq
          simp only at hj hlr
          dsimp only
          refine WX.seq ?_
          refine WX.region rfl ?_
          refine WXL.bin Met.none rfl rfl rfl ?_
          refine WXL.nil ?_
          refine Fin.then_normal ?_
          refine WX.seq ?_
          refine WX.cond rfl (fun hc4 => ?_) (fun hc4 => ?_)
          · try simp only [cnd] at hc4
            refine WX.skip ?_
            refine Fin.then_normal ?_
            refine WX.seq ?_
            refine WX.block ?_
            refine WX.seq ?_
            have hjm : fromK k + j < ps.length := by omega
            have hatj := hat j (by omega)
            rw [nth_drop] at hatj
            have hokj := hend.ok _ (nth_mem hjm)
            refine WX.region rfl ?_
            first | refine WXL.ix Met.none rfl rfl elem74 sz79 ?_ (ho := (show 0 + fromK k * 3 + ((j : Int)).toNat * 3 = (fromK k + j) * 3 from by omega)) | refine WXL.ixS Met.none rfl rfl elem74 sz79 ?_ (ho := (show 0 + fromK k * 3 + ((j : Int)).toNat * 3 = (fromK k + j) * 3 from by omega))
            first | refine WXL.ldN Met.none rfl agg79 sz79 ?_ (hv := (cellsAt_flat encA_len (arcsL n ps) (fromK k + j) (by omega))) | refine WXL.ldNS Met.none rfl agg79 sz79 ?_ (hv := (cellsAt_flat encA_len (arcsL n ps) (fromK k + j) (by omega)))
            rw [hatj]
            refine WXL.alloc (c := [_, _, _]) Met.none zero79 rfl (fun b24 => ?_)
            refine WXL.st (vs := [_, _, _]) (c' := [_, _, _]) Met.none rfl rfl rfl sz79 ?_
            refine WXL.nil ?_
            refine Fin.then_normal ?_
            refine WX.region rfl ?_
            refine WXL.move Met.none rfl ?_
            first | refine WXL.ld Met.none rfl agg89 ?_ | refine WXL.ldS Met.none rfl agg89 ?_
            refine WXL.ldN (vs := [_, _, _]) Met.none rfl agg79 sz79 ?_
            refine WXL.cl (O1 := _) Met.none rfl (fnOk_of Try.func49 (by decide +kernel)) rfl (fun _ h => h) (left_ok _ g (arcTo n (nth ps (fromK k + j))) b9 ag cg at_ src_ (by show (nth ps (fromK k + j)).1 < g.length; omega) (hg64 _ (by show (nth ps (fromK k + j)).1 < g.length; omega))) (fun v O' hp => ?_)
            obtain ⟨rfl, hO⟩ := hp
            subst O'
            rw [left_arcTo]
            refine WXL.min Met.none rfl rfl ?_
            refine WXL.assign Met.none rfl ?_
            refine WXL.nil ?_
            refine Fin.block_normal ?_
            refine Fin.then_normal ?_
            refine WX.region rfl ?_
            refine WXL.bin Met.none rfl rfl bvA ?_
            refine WXL.move Met.none rfl ?_
            refine WXL.nil ?_
            exact Fin.loop_next (j + 1, min x (amtTo n g (nth ps (fromK k + j)))) ⟨by simp only; omega, by
              rw [drop_nth hjm] at hlr
              exact hlr⟩ (by simp only; omega) (fun s hs => hs.tl [1, 2, 3, 4, 5, 6, 7] 8)
          · try simp only [cnd] at hc4
            refine WX.exit ?_
            refine Fin.then_exit ?_
            refine Fin.loop_exit ?_
            refine Fin.block_hit rfl ?_
            refine Fin.then_normal ?_
            refine WX.seq ?_
            refine WX.seq ?_
            have hje : fromK k + j = ps.length := by omega
            rw [hje, List.drop_length] at hlr
            have hxe : x = minA n g (ps.drop (fromK k)) := hlr
            subst hxe
            refine WX.region rfl ?_
            refine WXL.move Met.none rfl ?_
            refine WXL.len Met.none rfl Try.underlying74 ?_
            refine WXL.move Met.none rfl ?_
            refine WXL.nil ?_
            refine Fin.then_normal ?_
            refine WX.block ?_
            refine WX.loop (fun q : Nat × List Int × Objs => [(2, Ptr b2 0), (9, Ptr b9 0), (11, Ptr b11 0), (12, .func (.func 50) #[] #[Ptr b10 0, Ptr b11 0]), (13, .slice aP PL.length cP), (14, .slice aW W.length cW), (17, Row bn 0 (ps.length + 1) cn), (18, .slice (some ⟨bw, 0 + fromK k * 3, none⟩) (ps.length - fromK k) (ps.length - fromK k)), (19, I k), (22, I (minA n g (ps.drop (fromK k)))), (116, .slice (some ⟨bw, 0 + fromK k * 3, none⟩) (ps.length - fromK k) (ps.length - fromK k)), (117, I ((ps.length - fromK k : Nat) : Int)), (118, I (q.1 : Int))]) (fun q => (bn, ⟨1, false, (nodesOf n ps).map I⟩) :: (b11, ⟨0, false, [LeftV b9]⟩) :: (b10, ⟨0, false, [.slice (some ⟨bA, 0, none⟩) n.nodes.toNat cA]⟩) :: (b9, ⟨0, false, [.slice ag q.2.1.length cg]⟩) :: (b2, ⟨0, false, [I n.nodes, I n.source, I n.sink, .slice a n.edges.length c]⟩) :: (bA, ⟨1, false, rowsV n n.edges.length A C⟩) :: (bw, ⟨3, false, flat encA (arcsL n ps)⟩) :: (Gs.flatten ++ (q.2.2 ++ (GP ++ (GW ++ (Q ++ O)))))) (fun q => q.1 ≤ ps.length - fromK k ∧ Chg2 n g (minA n g (ps.drop (fromK k))) (ps.drop (fromK k)) (ps.drop (fromK k + q.1)) q.2.1 ∧ Grow 1 ag q.2.1.length cg (q.2.1.map I) q.2.2) (fun q => ps.length - fromK k - q.1) (0, g, Gg) ⟨Nat.zero_le _, ⟨rfl, rfl, fun _ _ => rfl, by
              simp only [Nat.add_zero]
              rw [List.map_drop]
              exact (List.drop_sublist _ _).nodup hend.edges⟩, hGg⟩ (fun s hs => hs.tl [0, 1, 2, 3, 4, 5, 6] 7) (fun q hq => ?_)
            obtain ⟨j2, g', Gg'⟩ := q
            obtain ⟨hj2, hC, hGg'⟩ := hq
            simp only at hj2 hC hGg'
            dsimp only
            have hcl := hC.len
            refine WX.seq ?_
            refine WX.region rfl ?_
            refine WXL.bin Met.none rfl rfl rfl ?_
            refine WXL.nil ?_
            refine Fin.then_normal ?_
            refine WX.seq ?_
            refine WX.cond rfl (fun hc5 => ?_) (fun hc5 => ?_)
            · try simp only [cnd] at hc5
              refine WX.skip ?_
              refine Fin.then_normal ?_
              refine WX.seq ?_
              refine WX.block ?_
              refine WX.seq ?_
              have hjm : fromK k + j2 < ps.length := by omega
              have hatj := hat j2 (by omega)
              rw [nth_drop] at hatj
              have hokj := hend.ok _ (nth_mem hjm)
              have hdn := drop_nth hjm
              rw [hdn] at hC
              have hsm := hC.same _ (List.mem_cons_self ..)
              have hbn := hB.bnd _ hokj.1
              have hpd : In64 (nth g' (nth ps (fromK k + j2)).1 + if (decide ((nth n.edges (nth ps (fromK k + j2)).1).b = (nth ps (fromK k + j2)).2)) = true then -(minA n g (ps.drop (fromK k))) else - -(minA n g (ps.drop (fromK k)))) := by
                unfold In64
                rw [hsm]
                split <;> omega
              refine WX.region rfl ?_
              first | refine WXL.ix Met.none rfl rfl elem74 sz79 ?_ (ho := (show 0 + fromK k * 3 + ((j2 : Int)).toNat * 3 = (fromK k + j2) * 3 from by omega)) | refine WXL.ixS Met.none rfl rfl elem74 sz79 ?_ (ho := (show 0 + fromK k * 3 + ((j2 : Int)).toNat * 3 = (fromK k + j2) * 3 from by omega))
              first | refine WXL.ldN Met.none rfl agg79 sz79 ?_ (hv := (cellsAt_flat encA_len (arcsL n ps) (fromK k + j2) (by omega))) | refine WXL.ldNS Met.none rfl agg79 sz79 ?_ (hv := (cellsAt_flat encA_len (arcsL n ps) (fromK k + j2) (by omega)))
              rw [hatj]
              refine WXL.alloc (c := [_, _, _]) Met.none zero79 rfl (fun b26 => ?_)
              refine WXL.st (vs := [_, _, _]) (c' := [_, _, _]) Met.none rfl rfl rfl sz79 ?_
              refine WXL.nil ?_
              refine Fin.then_normal ?_
              refine WX.region rfl ?_
              first | refine WXL.ld Met.none rfl agg22 ?_ | refine WXL.ldS Met.none rfl agg22 ?_
              refine WXL.ldN (vs := [_, _, _]) Met.none rfl agg79 sz79 ?_
              refine WXL.move Met.none rfl ?_
              refine WXL.neg Met.none rfl (by first | exact wrap_neg (by omega) (by omega) | exact rfl) ?_
              refine WXL.cl (O1 := (Gg' ++ ((b26, ⟨0, false, [I ((arcTo n (nth ps (fromK k + j2))).edge : Int), I (arcTo n (nth ps (fromK k + j2))).to, .bool (arcTo n (nth ps (fromK k + j2))).fwd]⟩) :: (bn, ⟨1, false, (nodesOf n ps).map I⟩) :: (b11, ⟨0, false, [LeftV b9]⟩) :: (b10, ⟨0, false, [.slice (some ⟨bA, 0, none⟩) n.nodes.toNat cA]⟩) :: (b9, ⟨0, false, [.slice ag g'.length cg]⟩) :: (b2, ⟨0, false, [I n.nodes, I n.source, I n.sink, .slice a n.edges.length c]⟩) :: (bA, ⟨1, false, rowsV n n.edges.length A C⟩) :: (bw, ⟨3, false, flat encA (arcsL n ps)⟩) :: (Gs.flatten ++ (GP ++ (GW ++ (Q ++ O))))))) Met.none rfl (fnOk_of Try.func39 (by decide +kernel)) rfl (fun _ h => by simpa only [List.append_assoc, List.cons_append] using Sat.back (A := (b26, _) :: (bn, _) :: (b11, _) :: (b10, _) :: (b9, _) :: (b2, _) :: (bA, _) :: (bw, _) :: Gs.flatten) (G := Gg') h) (push_ok _ Gg' g' (arcTo n (nth ps (fromK k + j2))) (-(minA n g (ps.drop (fromK k)))) ag cg hGg' (by show (nth ps (fromK k + j2)).1 < g'.length; omega) (by omega) hpd) (fun v O' hp => ?_)
              obtain ⟨Gg9, hGg9, rfl⟩ := hp
              rw [show pushP g' (arcTo n (nth ps (fromK k + j2))) (-(minA n g (ps.drop (fromK k)))) = changeR n g' (nth ps (fromK k + j2)).1 (nth ps (fromK k + j2)).2 (-(minA n g (ps.drop (fromK k)))) from push_by] at hGg9
              refine WXL.of (O' := (b26, ⟨0, false, [I ((arcTo n (nth ps (fromK k + j2))).edge : Int), I (arcTo n (nth ps (fromK k + j2))).to, .bool (arcTo n (nth ps (fromK k + j2))).fwd]⟩) :: (bn, ⟨1, false, (nodesOf n ps).map I⟩) :: (b11, ⟨0, false, [LeftV b9]⟩) :: (b10, ⟨0, false, [.slice (some ⟨bA, 0, none⟩) n.nodes.toNat cA]⟩) :: (b9, ⟨0, false, [.slice ag g'.length cg]⟩) :: (b2, ⟨0, false, [I n.nodes, I n.source, I n.sink, .slice a n.edges.length c]⟩) :: (bA, ⟨1, false, rowsV n n.edges.length A C⟩) :: (bw, ⟨3, false, flat encA (arcsL n ps)⟩) :: (Gs.flatten ++ (Gg9 ++ (GP ++ (GW ++ (Q ++ O)))))) (fun s hs => St.via hs (fun h hh => by simpa only [List.append_assoc, List.cons_append] using Sat.swap (G := Gg9) (A := (b26, _) :: (bn, _) :: (b11, _) :: (b10, _) :: (b9, _) :: (b2, _) :: (bA, _) :: (bw, _) :: Gs.flatten) hh)) ?_
              refine WXL.nil ?_
              refine Fin.block_normal ?_
              refine Fin.then_normal ?_
              refine WX.region rfl ?_
              refine WXL.bin Met.none rfl rfl bvA ?_
              refine WXL.move Met.none rfl ?_
              refine WXL.nil ?_
              have hC2 := hC.next hgl (fun p hp => by
                rw [← hdn] at hp
                exact (hend.ok p (List.mem_of_mem_drop hp)).1)
              exact Fin.loop_next (j2 + 1, changeR n g' (nth ps (fromK k + j2)).1 (nth ps (fromK k + j2)).2 (-(minA n g (ps.drop (fromK k)))), Gg9) ⟨by simp only; omega, hC2, by simp only; rw [changeR_length]; exact hGg9⟩ (by simp only; omega) (by simp only [changeR_length]; exact (fun s hs => hs.tl [1, 2, 3, 4, 5, 6, 7] 8))
            · try simp only [cnd] at hc5
              refine WX.exit ?_
              refine Fin.then_exit ?_
              refine Fin.loop_exit ?_
              refine Fin.block_hit rfl ?_
              refine Fin.then_normal ?_
              refine WX.seq ?_
              have hje2 : fromK k + j2 = ps.length := by omega
              rw [hje2, List.drop_length] at hC
              have hge : g' = changeW n (-(minA n g (ps.drop (fromK k)))) (ps.drop (fromK k)) g := hC.goal
              subst hge
              have habs2 := nz_in n (changeW n (-(minA n g (ps.drop (fromK k)))) (ps.drop (fromK k)) g)
              have hnz := nz_round hn hB hend0
              refine WX.region rfl ?_
              refine WXL.move Met.none rfl ?_
              refine WXL.bin Met.none rfl rfl rfl ?_
              refine WXL.nil ?_
              refine Fin.then_normal ?_
              refine WX.cond rfl (fun hc6 => ?_) (fun hc6 => ?_)
              · try simp only [cnd] at hc6
                refine WX.region rfl ?_
                refine WXL.move Met.none rfl ?_
                refine WXL.move Met.none rfl ?_
                refine WXL.buildSlice (c := [_]) Met.none rfl elem50 sz22 zero22 (by decide) (by decide) rfl rfl rfl rfl (fun b132 => ?_)
                refine WXL.apG ((_, _) :: (bn, _) :: (b11, _) :: (b10, _) :: (b9, _) :: (b2, _) :: (bA, _) :: (bw, _) :: (Gs.flatten ++ Gg')) Met.none rfl rfl isrow50 elem50 sz22 by22 zero22 (Src.lit (cs := [_])) (fun a133 c133 G133 hG133 => ?_) (hO := (by simp only [List.append_assoc, List.cons_append]; exact rfl))
                refine WXL.of (fun s hs => St.eqv hs (by simp only [List.append_assoc, List.cons_append]; exact rfl)) ?_
                refine WXL.move Met.none rfl ?_
                refine WXL.move Met.none rfl ?_
                refine WXL.buildSlice (c := [_]) Met.none rfl elem22 sz3 zero3 (by decide) (by decide) rfl rfl rfl rfl (fun b136 => ?_)
                refine WXL.apG ((_, _) :: (_, _) :: (bn, _) :: (b11, _) :: (b10, _) :: (b9, _) :: (b2, _) :: (bA, _) :: (bw, _) :: (Gs.flatten ++ (Gg' ++ G133))) Met.none rfl rfl isrow22 elem22 sz3 by3 zero3 (Src.lit (cs := [_])) (fun a137 c137 G137 hG137 => ?_) (hO := (by simp only [List.append_assoc, List.cons_append]; exact rfl))
                refine WXL.assign Met.none rfl ?_
                refine WXL.assign Met.none rfl ?_
                refine WXL.nil ?_
                refine Fin.block_normal ?_
                first
                | (have hkn : ¬ k < 0 := by omega
                   have hmu : (nzSum n (changeW n (-(minA n g (ps.drop (fromK k)))) (ps.drop (fromK k)) g)).toNat < (nzSum n g).toNat := by omega
                   have hcnt2 : PL.length + (nzSum n (changeW n (-(minA n g (ps.drop (fromK k)))) (ps.drop (fromK k)) g)).toNat ≤ n.edges.length := by omega
                   refine Fin.loop_next (changeW n (-(minA n g (ps.drop (fromK k)))) (ps.drop (fromK k)) g, Gg', PL, Q, (aP, cP, GP), W, (aW, cW, GW)) ⟨hGg', m4, fun r hr => hgoal r (.more hs hend0 (by rw [if_neg hkn, if_neg hkn]; exact hr)), hPM, hGP, hGW, hcnt2, hWl⟩ hmu ?_
                   exact (fun s hs => hs.tl [1, 2, 3, 4, 5] 7))
                | (have hkn : k < 0 := hc6
                   have hcnt2 : PL.length + 1 + (nzSum n (changeW n (-(minA n g (ps.drop (fromK k)))) (ps.drop (fromK k)) g)).toNat ≤ n.edges.length := by omega
                   have hmu : (nzSum n (changeW n (-(minA n g (ps.drop (fromK k)))) (ps.drop (fromK k)) g)).toNat < (nzSum n g).toNat := by omega
                   have hW' : Grow 1 a137 (W ++ [minA n g (ps.drop (fromK k))]).length c137 ((W ++ [minA n g (ps.drop (fromK k))]).map I) G137 := by
                     rw [List.length_append, List.length_singleton, List.map_append]
                     exact hG137
                   have hP' : Grow 1 a133 (PL ++ [(⟨nodesOf n ps, some ⟨bn, 0, none⟩, ps.length + 1, cn⟩ : RowP Int)]).length c133 ((PL ++ [(⟨nodesOf n ps, some ⟨bn, 0, none⟩, ps.length + 1, cn⟩ : RowP Int)]).map encR) G133 := by
                     rw [List.length_append, List.length_singleton, List.map_append]
                     exact hG133
                   have hmp : (PL ++ [(⟨nodesOf n ps, some ⟨bn, 0, none⟩, ps.length + 1, cn⟩ : RowP Int)]).map (·.l) = PL.map (·.l) ++ [nodesOf n ps] := by simp
                   refine Fin.loop_next (changeW n (-(minA n g (ps.drop (fromK k)))) (ps.drop (fromK k)) g, Gg', PL ++ [(⟨nodesOf n ps, some ⟨bn, 0, none⟩, ps.length + 1, cn⟩ : RowP Int)], (bn, ⟨1, false, (nodesOf n ps).map I⟩) :: Q, (a133, c133, G133), W ++ [minA n g (ps.drop (fromK k))], (a137, c137, G137)) ⟨hGg', m4, fun r hr => hgoal r (.more hs hend0 (by rw [if_pos hkn, if_pos hkn, ← hmp]; exact hr)), ⟨rfl, fun p hp => ?_⟩, hP', hW', by simp only [List.length_append, List.length_singleton]; exact hcnt2, by simp only [List.length_append, List.length_singleton]; omega⟩ hmu ?_
                   · rcases List.mem_append.1 hp with hp | hp
                     · exact ⟨(hPM.row p hp).1, let ⟨b, h1, h2⟩ := (hPM.row p hp).2; ⟨b, h1, h2.cons⟩⟩
                     · rw [List.mem_singleton] at hp
                       subst hp
                       exact ⟨hnl.symm, bn, rfl, Knows.at 0 rfl⟩
                   · simp only [List.length_append, List.length_singleton]
                     exact fun s hs => St.tl [0, 1, 2, 3, 4] 5 (St.via (O' := (b11, ⟨0, false, [LeftV b9]⟩) :: (b10, ⟨0, false, [.slice (some ⟨bA, 0, none⟩) n.nodes.toNat cA]⟩) :: (b9, ⟨0, false, [.slice ag (changeW n (-(minA n g (ps.drop (fromK k)))) (ps.drop (fromK k)) g).length cg]⟩) :: (b2, ⟨0, false, [I n.nodes, I n.source, I n.sink, .slice a n.edges.length c]⟩) :: (bA, ⟨1, false, rowsV n n.edges.length A C⟩) :: (Gs.flatten ++ (Gg' ++ (G133 ++ (G137 ++ ((bn, ⟨1, false, (nodesOf n ps).map I⟩) :: (Q ++ O))))))) hs (fun h hh => by
                       simp only [List.append_assoc, List.cons_append] at hh
                       have h3 := Sat.mid (G := (bn, _) :: (b11, _) :: (b10, _) :: (b9, _) :: (b2, _) :: [(bA, _)]) (A := [(bw, _)]) (R := Gs.flatten ++ (Gg' ++ (G133 ++ (G137 ++ (Q ++ O))))) hh.tail.tail
                       have h5 := Sat.swap (G := [(bn, _)]) (A := (b11, _) :: (b10, _) :: (b9, _) :: (b2, _) :: (bA, _) :: (Gs.flatten ++ (Gg' ++ (G133 ++ G137)))) (R := Q ++ O) (by simpa only [List.append_assoc, List.cons_append, List.nil_append] using h3)
                       simpa only [List.append_assoc, List.cons_append, List.nil_append] using h5)))
              · try simp only [cnd] at hc6
                refine WX.skip ?_
                refine Fin.block_normal ?_
                first
                | (have hkn : ¬ k < 0 := by omega
                   have hmu : (nzSum n (changeW n (-(minA n g (ps.drop (fromK k)))) (ps.drop (fromK k)) g)).toNat < (nzSum n g).toNat := by omega
                   have hcnt2 : PL.length + (nzSum n (changeW n (-(minA n g (ps.drop (fromK k)))) (ps.drop (fromK k)) g)).toNat ≤ n.edges.length := by omega
                   refine Fin.loop_next (changeW n (-(minA n g (ps.drop (fromK k)))) (ps.drop (fromK k)) g, Gg', PL, Q, (aP, cP, GP), W, (aW, cW, GW)) ⟨hGg', m4, fun r hr => hgoal r (.more hs hend0 (by rw [if_neg hkn, if_neg hkn]; exact hr)), hPM, hGP, hGW, hcnt2, hWl⟩ hmu ?_
                   exact (fun s hs => hs.tl [1, 2, 3, 4, 5] 7))
                | (have hkn : k < 0 := hc6
                   have hcnt2 : PL.length + 1 + (nzSum n (changeW n (-(minA n g (ps.drop (fromK k)))) (ps.drop (fromK k)) g)).toNat ≤ n.edges.length := by omega
                   have hmu : (nzSum n (changeW n (-(minA n g (ps.drop (fromK k)))) (ps.drop (fromK k)) g)).toNat < (nzSum n g).toNat := by omega
                   have hW' : Grow 1 a137 (W ++ [minA n g (ps.drop (fromK k))]).length c137 ((W ++ [minA n g (ps.drop (fromK k))]).map I) G137 := by
                     rw [List.length_append, List.length_singleton, List.map_append]
                     exact hG137
                   have hP' : Grow 1 a133 (PL ++ [(⟨nodesOf n ps, some ⟨bn, 0, none⟩, ps.length + 1, cn⟩ : RowP Int)]).length c133 ((PL ++ [(⟨nodesOf n ps, some ⟨bn, 0, none⟩, ps.length + 1, cn⟩ : RowP Int)]).map encR) G133 := by
                     rw [List.length_append, List.length_singleton, List.map_append]
                     exact hG133
                   have hmp : (PL ++ [(⟨nodesOf n ps, some ⟨bn, 0, none⟩, ps.length + 1, cn⟩ : RowP Int)]).map (·.l) = PL.map (·.l) ++ [nodesOf n ps] := by simp
                   refine Fin.loop_next (changeW n (-(minA n g (ps.drop (fromK k)))) (ps.drop (fromK k)) g, Gg', PL ++ [(⟨nodesOf n ps, some ⟨bn, 0, none⟩, ps.length + 1, cn⟩ : RowP Int)], (bn, ⟨1, false, (nodesOf n ps).map I⟩) :: Q, (a133, c133, G133), W ++ [minA n g (ps.drop (fromK k))], (a137, c137, G137)) ⟨hGg', m4, fun r hr => hgoal r (.more hs hend0 (by rw [if_pos hkn, if_pos hkn, ← hmp]; exact hr)), ⟨rfl, fun p hp => ?_⟩, hP', hW', by simp only [List.length_append, List.length_singleton]; exact hcnt2, by simp only [List.length_append, List.length_singleton]; omega⟩ hmu ?_
                   · rcases List.mem_append.1 hp with hp | hp
                     · exact ⟨(hPM.row p hp).1, let ⟨b, h1, h2⟩ := (hPM.row p hp).2; ⟨b, h1, h2.cons⟩⟩
                     · rw [List.mem_singleton] at hp
                       subst hp
                       exact ⟨hnl.symm, bn, rfl, Knows.at 0 rfl⟩
                   · simp only [List.length_append, List.length_singleton]
                     exact fun s hs => St.tl [0, 1, 2, 3, 4] 5 (St.via (O' := (b11, ⟨0, false, [LeftV b9]⟩) :: (b10, ⟨0, false, [.slice (some ⟨bA, 0, none⟩) n.nodes.toNat cA]⟩) :: (b9, ⟨0, false, [.slice ag (changeW n (-(minA n g (ps.drop (fromK k)))) (ps.drop (fromK k)) g).length cg]⟩) :: (b2, ⟨0, false, [I n.nodes, I n.source, I n.sink, .slice a n.edges.length c]⟩) :: (bA, ⟨1, false, rowsV n n.edges.length A C⟩) :: (Gs.flatten ++ (Gg' ++ (G133 ++ (G137 ++ ((bn, ⟨1, false, (nodesOf n ps).map I⟩) :: (Q ++ O))))))) hs (fun h hh => by
                       simp only [List.append_assoc, List.cons_append] at hh
                       have h3 := Sat.mid (G := (bn, _) :: (b11, _) :: (b10, _) :: (b9, _) :: (b2, _) :: [(bA, _)]) (A := [(bw, _)]) (R := Gs.flatten ++ (Gg' ++ (G133 ++ (G137 ++ (Q ++ O))))) hh.tail.tail
                       have h5 := Sat.swap (G := [(bn, _)]) (A := (b11, _) :: (b10, _) :: (b9, _) :: (b2, _) :: (bA, _) :: (Gs.flatten ++ (Gg' ++ (G133 ++ G137)))) (R := Q ++ O) (by simpa only [List.append_assoc, List.cons_append, List.nil_append] using h3)
                       simpa only [List.append_assoc, List.cons_append, List.nil_append] using h5)))
      · try simp only [cnd] at hg58
        refine WXL.miss (j := 2) (d := 58) rfl rfl rfl ?_
        refine WXL.miss (j := 2) (d := 58) rfl rfl rfl ?_
        refine WXL.miss (j := 2) (d := 58) rfl rfl rfl ?_
        refine WXL.miss (j := 2) (d := 58) rfl rfl rfl ?_
        refine WXL.miss (j := 2) (d := 58) rfl rfl rfl ?_
        refine WXL.miss (j := 2) (d := 58) rfl rfl rfl ?_
        try rw [hcn]
        refine WXL.miss (j := 2) (d := 58) rfl rfl rfl ?_
        refine WXL.miss (j := 2) (d := 58) rfl rfl rfl ?_
        refine WXL.miss (j := 2) (d := 58) rfl rfl rfl ?_
        refine WXL.pick_f Met.none rfl rfl ?_
        refine WXL.nil ?_
        refine Fin.then_normal ?_
        refine WX.cond rfl (fun hc2 => nomatch hc2) (fun hc2 => ?_)
        refine WX.exit ?_
        refine Fin.then_exit ?_
        refine Fin.loop_exit ?_
        refine Fin.block_hit rfl ?_
        refine Fin.then_normal ?_
        refine WX.seq ?_
        have hend0 : TrTo n g [] ps k := by
          rcases htr with ⟨q1, q2, q3⟩ | ⟨q1, q2⟩
          · subst q1
            refine q3 _ _ (.stop ?_)
            first | assumption | omega
          · exact q2
        obtain ⟨hend, hkm⟩ := hend0.ends hn (Tra.nil hn g)
        obtain ⟨m1, m2, m3, m4, m5, m6⟩ := round_ok hn hB hend0
        have hsh := hend.short
        have hfk : (fromK k : Int) = max k 0 := by unfold fromK; omega
        obtain ⟨bw, rfl, rfl, hbwl⟩ := hGe.row_of (by omega)
        have hal : (arcsL n ps).length = ps.length := by unfold arcsL; simp
        have hat : ∀ j, j < ps.length - fromK k → nth ((arcsL n ps).drop (fromK k)) j = arcTo n (nth ps (fromK k + j)) := fun j hj => by
          rw [nth_drop]
          exact nth_map (by omega)
        refine WX.region rfl ?_
        refine WXL.move Met.none rfl ?_
        refine WXL.move Met.none rfl ?_
        refine WXL.max Met.none rfl rfl ?_
        refine WXL.suf (cs := []) (m := (fromK k)) Met.none rfl rfl elem74 sz79 rfl (Knows.at 6 rfl) rfl ?_
        refine WXL.assign Met.none rfl ?_
        refine WXL.nil ?_
        refine Fin.then_normal ?_
        refine WX.seq ?_
        refine WX.draw rfl ?_
        first | refine WXL.ld Met.none rfl agg89 ?_ | refine WXL.ldS Met.none rfl agg89 ?_
        refine WXL.move Met.none rfl ?_
        first | refine WXL.ix Met.none rfl rfl elem74 sz79 ?_ (ho := (show 0 + fromK k * 3 + (0 : Int).toNat * 3 = fromK k * 3 from by omega)) | refine WXL.ixS Met.none rfl rfl elem74 sz79 ?_ (ho := (show 0 + fromK k * 3 + (0 : Int).toNat * 3 = fromK k * 3 from by omega))
        first | refine WXL.ldN Met.none rfl agg79 sz79 ?_ (hv := (cellsAt_flat encA_len (arcsL n ps) (fromK k) (by omega))) | refine WXL.ldNS Met.none rfl agg79 sz79 ?_ (hv := (cellsAt_flat encA_len (arcsL n ps) (fromK k) (by omega)))
        have hat0 := hat 0 (by omega)
        rw [nth_drop, Nat.add_zero] at hat0
        rw [hat0]
        have hok0 := hend.ok _ (nth_mem hsh)
        refine WXL.cl (O1 := _) Met.none rfl (fnOk_of Try.func49 (by decide +kernel)) rfl (fun _ h => h) (left_ok _ g (arcTo n (nth ps (fromK k))) b9 ag cg at_ src_ (by show (nth ps (fromK k)).1 < g.length; omega) (hg64 _ (by show (nth ps (fromK k)).1 < g.length; omega))) (fun v O' hp => ?_)
        obtain ⟨rfl, hO⟩ := hp
        subst O'
        rw [left_arcTo]
        refine WXL.assign Met.none rfl ?_
        refine WXL.nil ?_
        refine Fin.then_normal ?_
        refine WX.seq ?_
        refine WX.seq ?_
        refine WX.region rfl ?_
        refine WXL.move Met.none rfl ?_
        refine WXL.len Met.none rfl Try.underlying74 ?_
        refine WXL.move Met.none rfl ?_
        refine WXL.nil ?_
        refine Fin.then_normal ?_
        refine WX.block ?_
        refine WX.loop (fun q : Nat × Int => [(2, Ptr b2 0), (9, Ptr b9 0), (11, Ptr b11 0), (12, .func (.func 50) #[] #[Ptr b10 0, Ptr b11 0]), (13, .slice aP PL.length cP), (14, .slice aW W.length cW), (17, Row bn 0 (ps.length + 1) cn), (18, .slice (some ⟨bw, 0 + fromK k * 3, none⟩) (ps.length - fromK k) (ps.length - fromK k)), (19, I k), (22, I q.2), (104, .slice (some ⟨bw, 0 + fromK k * 3, none⟩) (ps.length - fromK k) (ps.length - fromK k)), (105, I ((ps.length - fromK k : Nat) : Int)), (106, I (q.1 : Int))]) (fun q => (bn, ⟨1, false, (nodesOf n ps).map I⟩) :: (b11, ⟨0, false, [LeftV b9]⟩) :: (b10, ⟨0, false, [.slice (some ⟨bA, 0, none⟩) n.nodes.toNat cA]⟩) :: (b9, ⟨0, false, [.slice ag g.length cg]⟩) :: (b2, ⟨0, false, [I n.nodes, I n.source, I n.sink, .slice a n.edges.length c]⟩) :: (bA, ⟨1, false, rowsV n n.edges.length A C⟩) :: (bw, ⟨3, false, flat encA (arcsL n ps)⟩) :: (Gs.flatten ++ (Gg ++ (GP ++ (GW ++ (Q ++ O)))))) (fun q => q.1 ≤ ps.length - fromK k ∧ leastA n g q.2 (ps.drop (fromK k + q.1)) = minA n g (ps.drop (fromK k))) (fun q => ps.length - fromK k - q.1) (0, amtTo n g (nth ps (fromK k))) ⟨Nat.zero_le _, by
          simp only [Nat.add_zero]
          rw [drop_nth hsh]
          rfl⟩ (fun s hs => hs.tl [0, 1, 2, 3, 4, 5, 6] 7) (fun q hq => ?_)
        obtain ⟨j, x⟩ := q
        obtain ⟨hj, hlr⟩ := hq
        simp only at hj hlr
        dsimp only
        refine WX.seq ?_
        refine WX.region rfl ?_
        refine WXL.bin Met.none rfl rfl rfl ?_
        refine WXL.nil ?_
        refine Fin.then_normal ?_
        refine WX.seq ?_
        refine WX.cond rfl (fun hc4 => ?_) (fun hc4 => ?_)
        · try simp only [cnd] at hc4
          refine WX.skip ?_
          refine Fin.then_normal ?_
          refine WX.seq ?_
          refine WX.block ?_
          refine WX.seq ?_
          have hjm : fromK k + j < ps.length := by omega
          have hatj := hat j (by omega)
          rw [nth_drop] at hatj
          have hokj := hend.ok _ (nth_mem hjm)
          refine WX.region rfl ?_
          first | refine WXL.ix Met.none rfl rfl elem74 sz79 ?_ (ho := (show 0 + fromK k * 3 + ((j : Int)).toNat * 3 = (fromK k + j) * 3 from by omega)) | refine WXL.ixS Met.none rfl rfl elem74 sz79 ?_ (ho := (show 0 + fromK k * 3 + ((j : Int)).toNat * 3 = (fromK k + j) * 3 from by omega))
          first | refine WXL.ldN Met.none rfl agg79 sz79 ?_ (hv := (cellsAt_flat encA_len (arcsL n ps) (fromK k + j) (by omega))) | refine WXL.ldNS Met.none rfl agg79 sz79 ?_ (hv := (cellsAt_flat encA_len (arcsL n ps) (fromK k + j) (by omega)))
          rw [hatj]
          refine WXL.alloc (c := [_, _, _]) Met.none zero79 rfl (fun b24 => ?_)
          refine WXL.st (vs := [_, _, _]) (c' := [_, _, _]) Met.none rfl rfl rfl sz79 ?_
          refine WXL.nil ?_
          refine Fin.then_normal ?_
          refine WX.region rfl ?_
          refine WXL.move Met.none rfl ?_
          first | refine WXL.ld Met.none rfl agg89 ?_ | refine WXL.ldS Met.none rfl agg89 ?_
          refine WXL.ldN (vs := [_, _, _]) Met.none rfl agg79 sz79 ?_
          refine WXL.cl (O1 := _) Met.none rfl (fnOk_of Try.func49 (by decide +kernel)) rfl (fun _ h => h) (left_ok _ g (arcTo n (nth ps (fromK k + j))) b9 ag cg at_ src_ (by show (nth ps (fromK k + j)).1 < g.length; omega) (hg64 _ (by show (nth ps (fromK k + j)).1 < g.length; omega))) (fun v O' hp => ?_)
          obtain ⟨rfl, hO⟩ := hp
          subst O'
          rw [left_arcTo]
          refine WXL.min Met.none rfl rfl ?_
          refine WXL.assign Met.none rfl ?_
          refine WXL.nil ?_
          refine Fin.block_normal ?_
          refine Fin.then_normal ?_
          refine WX.region rfl ?_
          refine WXL.bin Met.none rfl rfl bvA ?_
          refine WXL.move Met.none rfl ?_
          refine WXL.nil ?_
          exact Fin.loop_next (j + 1, min x (amtTo n g (nth ps (fromK k + j)))) ⟨by simp only; omega, by
            rw [drop_nth hjm] at hlr
            exact hlr⟩ (by simp only; omega) (fun s hs => hs.tl [1, 2, 3, 4, 5, 6, 7] 8)
        · try simp only [cnd] at hc4
          refine WX.exit ?_
          refine Fin.then_exit ?_
          refine Fin.loop_exit ?_
          refine Fin.block_hit rfl ?_
          refine Fin.then_normal ?_
          refine WX.seq ?_
          refine WX.seq ?_
          have hje : fromK k + j = ps.length := by omega
          rw [hje, List.drop_length] at hlr
          have hxe : x = minA n g (ps.drop (fromK k)) := hlr
          subst hxe
          refine WX.region rfl ?_
          refine WXL.move Met.none rfl ?_
          refine WXL.len Met.none rfl Try.underlying74 ?_
          refine WXL.move Met.none rfl ?_
          refine WXL.nil ?_
          refine Fin.then_normal ?_
          refine WX.block ?_
          refine WX.loop (fun q : Nat × List Int × Objs => [(2, Ptr b2 0), (9, Ptr b9 0), (11, Ptr b11 0), (12, .func (.func 50) #[] #[Ptr b10 0, Ptr b11 0]), (13, .slice aP PL.length cP), (14, .slice aW W.length cW), (17, Row bn 0 (ps.length + 1) cn), (18, .slice (some ⟨bw, 0 + fromK k * 3, none⟩) (ps.length - fromK k) (ps.length - fromK k)), (19, I k), (22, I (minA n g (ps.drop (fromK k)))), (116, .slice (some ⟨bw, 0 + fromK k * 3, none⟩) (ps.length - fromK k) (ps.length - fromK k)), (117, I ((ps.length - fromK k : Nat) : Int)), (118, I (q.1 : Int))]) (fun q => (bn, ⟨1, false, (nodesOf n ps).map I⟩) :: (b11, ⟨0, false, [LeftV b9]⟩) :: (b10, ⟨0, false, [.slice (some ⟨bA, 0, none⟩) n.nodes.toNat cA]⟩) :: (b9, ⟨0, false, [.slice ag q.2.1.length cg]⟩) :: (b2, ⟨0, false, [I n.nodes, I n.source, I n.sink, .slice a n.edges.length c]⟩) :: (bA, ⟨1, false, rowsV n n.edges.length A C⟩) :: (bw, ⟨3, false, flat encA (arcsL n ps)⟩) :: (Gs.flatten ++ (q.2.2 ++ (GP ++ (GW ++ (Q ++ O)))))) (fun q => q.1 ≤ ps.length - fromK k ∧ Chg2 n g (minA n g (ps.drop (fromK k))) (ps.drop (fromK k)) (ps.drop (fromK k + q.1)) q.2.1 ∧ Grow 1 ag q.2.1.length cg (q.2.1.map I) q.2.2) (fun q => ps.length - fromK k - q.1) (0, g, Gg) ⟨Nat.zero_le _, ⟨rfl, rfl, fun _ _ => rfl, by
            simp only [Nat.add_zero]
            rw [List.map_drop]
            exact (List.drop_sublist _ _).nodup hend.edges⟩, hGg⟩ (fun s hs => hs.tl [0, 1, 2, 3, 4, 5, 6] 7) (fun q hq => ?_)
          obtain ⟨j2, g', Gg'⟩ := q
          obtain ⟨hj2, hC, hGg'⟩ := hq
          simp only at hj2 hC hGg'
          dsimp only
          have hcl := hC.len
          refine WX.seq ?_
          refine WX.region rfl ?_
          refine WXL.bin Met.none rfl rfl rfl ?_
          refine WXL.nil ?_
          refine Fin.then_normal ?_
          refine WX.seq ?_
          refine WX.cond rfl (fun hc5 => ?_) (fun hc5 => ?_)
          · try simp only [cnd] at hc5
            refine WX.skip ?_
            refine Fin.then_normal ?_
            refine WX.seq ?_
            refine WX.block ?_
            refine WX.seq ?_
            have hjm : fromK k + j2 < ps.length := by omega
            have hatj := hat j2 (by omega)
            rw [nth_drop] at hatj
            have hokj := hend.ok _ (nth_mem hjm)
            have hdn := drop_nth hjm
            rw [hdn] at hC
            have hsm := hC.same _ (List.mem_cons_self ..)
            have hbn := hB.bnd _ hokj.1
            have hpd : In64 (nth g' (nth ps (fromK k + j2)).1 + if (decide ((nth n.edges (nth ps (fromK k + j2)).1).b = (nth ps (fromK k + j2)).2)) = true then -(minA n g (ps.drop (fromK k))) else - -(minA n g (ps.drop (fromK k)))) := by
              unfold In64
              rw [hsm]
              split <;> omega
            refine WX.region rfl ?_
            first | refine WXL.ix Met.none rfl rfl elem74 sz79 ?_ (ho := (show 0 + fromK k * 3 + ((j2 : Int)).toNat * 3 = (fromK k + j2) * 3 from by omega)) | refine WXL.ixS Met.none rfl rfl elem74 sz79 ?_ (ho := (show 0 + fromK k * 3 + ((j2 : Int)).toNat * 3 = (fromK k + j2) * 3 from by omega))
            first | refine WXL.ldN Met.none rfl agg79 sz79 ?_ (hv := (cellsAt_flat encA_len (arcsL n ps) (fromK k + j2) (by omega))) | refine WXL.ldNS Met.none rfl agg79 sz79 ?_ (hv := (cellsAt_flat encA_len (arcsL n ps) (fromK k + j2) (by omega)))
            rw [hatj]
            refine WXL.alloc (c := [_, _, _]) Met.none zero79 rfl (fun b26 => ?_)
            refine WXL.st (vs := [_, _, _]) (c' := [_, _, _]) Met.none rfl rfl rfl sz79 ?_
            refine WXL.nil ?_
            refine Fin.then_normal ?_
            refine WX.region rfl ?_
            first | refine WXL.ld Met.none rfl agg22 ?_ | refine WXL.ldS Met.none rfl agg22 ?_
            refine WXL.ldN (vs := [_, _, _]) Met.none rfl agg79 sz79 ?_
            refine WXL.move Met.none rfl ?_
            refine WXL.neg Met.none rfl (by first | exact wrap_neg (by omega) (by omega) | exact rfl) ?_
            refine WXL.cl (O1 := (Gg' ++ ((b26, ⟨0, false, [I ((arcTo n (nth ps (fromK k + j2))).edge : Int), I (arcTo n (nth ps (fromK k + j2))).to, .bool (arcTo n (nth ps (fromK k + j2))).fwd]⟩) :: (bn, ⟨1, false, (nodesOf n ps).map I⟩) :: (b11, ⟨0, false, [LeftV b9]⟩) :: (b10, ⟨0, false, [.slice (some ⟨bA, 0, none⟩) n.nodes.toNat cA]⟩) :: (b9, ⟨0, false, [.slice ag g'.length cg]⟩) :: (b2, ⟨0, false, [I n.nodes, I n.source, I n.sink, .slice a n.edges.length c]⟩) :: (bA, ⟨1, false, rowsV n n.edges.length A C⟩) :: (bw, ⟨3, false, flat encA (arcsL n ps)⟩) :: (Gs.flatten ++ (GP ++ (GW ++ (Q ++ O))))))) Met.none rfl (fnOk_of Try.func39 (by decide +kernel)) rfl (fun _ h => by simpa only [List.append_assoc, List.cons_append] using Sat.back (A := (b26, _) :: (bn, _) :: (b11, _) :: (b10, _) :: (b9, _) :: (b2, _) :: (bA, _) :: (bw, _) :: Gs.flatten) (G := Gg') h) (push_ok _ Gg' g' (arcTo n (nth ps (fromK k + j2))) (-(minA n g (ps.drop (fromK k)))) ag cg hGg' (by show (nth ps (fromK k + j2)).1 < g'.length; omega) (by omega) hpd) (fun v O' hp => ?_)
            obtain ⟨Gg9, hGg9, rfl⟩ := hp
            rw [show pushP g' (arcTo n (nth ps (fromK k + j2))) (-(minA n g (ps.drop (fromK k)))) = changeR n g' (nth ps (fromK k + j2)).1 (nth ps (fromK k + j2)).2 (-(minA n g (ps.drop (fromK k)))) from push_by] at hGg9
            refine WXL.of (O' := (b26, ⟨0, false, [I ((arcTo n (nth ps (fromK k + j2))).edge : Int), I (arcTo n (nth ps (fromK k + j2))).to, .bool (arcTo n (nth ps (fromK k + j2))).fwd]⟩) :: (bn, ⟨1, false, (nodesOf n ps).map I⟩) :: (b11, ⟨0, false, [LeftV b9]⟩) :: (b10, ⟨0, false, [.slice (some ⟨bA, 0, none⟩) n.nodes.toNat cA]⟩) :: (b9, ⟨0, false, [.slice ag g'.length cg]⟩) :: (b2, ⟨0, false, [I n.nodes, I n.source, I n.sink, .slice a n.edges.length c]⟩) :: (bA, ⟨1, false, rowsV n n.edges.length A C⟩) :: (bw, ⟨3, false, flat encA (arcsL n ps)⟩) :: (Gs.flatten ++ (Gg9 ++ (GP ++ (GW ++ (Q ++ O)))))) (fun s hs => St.via hs (fun h hh => by simpa only [List.append_assoc, List.cons_append] using Sat.swap (G := Gg9) (A := (b26, _) :: (bn, _) :: (b11, _) :: (b10, _) :: (b9, _) :: (b2, _) :: (bA, _) :: (bw, _) :: Gs.flatten) hh)) ?_
            refine WXL.nil ?_
            refine Fin.block_normal ?_
            refine Fin.then_normal ?_
            refine WX.region rfl ?_
            refine WXL.bin Met.none rfl rfl bvA ?_
            refine WXL.move Met.none rfl ?_
            refine WXL.nil ?_
            have hC2 := hC.next hgl (fun p hp => by
              rw [← hdn] at hp
              exact (hend.ok p (List.mem_of_mem_drop hp)).1)
            exact Fin.loop_next (j2 + 1, changeR n g' (nth ps (fromK k + j2)).1 (nth ps (fromK k + j2)).2 (-(minA n g (ps.drop (fromK k)))), Gg9) ⟨by simp only; omega, hC2, by simp only; rw [changeR_length]; exact hGg9⟩ (by simp only; omega) (by simp only [changeR_length]; exact (fun s hs => hs.tl [1, 2, 3, 4, 5, 6, 7] 8))
          · try simp only [cnd] at hc5
            refine WX.exit ?_
            refine Fin.then_exit ?_
            refine Fin.loop_exit ?_
            refine Fin.block_hit rfl ?_
            refine Fin.then_normal ?_
            refine WX.seq ?_
            have hje2 : fromK k + j2 = ps.length := by omega
            rw [hje2, List.drop_length] at hC
            have hge : g' = changeW n (-(minA n g (ps.drop (fromK k)))) (ps.drop (fromK k)) g := hC.goal
            subst hge
            have habs2 := nz_in n (changeW n (-(minA n g (ps.drop (fromK k)))) (ps.drop (fromK k)) g)
            have hnz := nz_round hn hB hend0
            refine WX.region rfl ?_
            refine WXL.move Met.none rfl ?_
            refine WXL.bin Met.none rfl rfl rfl ?_
            refine WXL.nil ?_
            refine Fin.then_normal ?_
            refine WX.cond rfl (fun hc6 => ?_) (fun hc6 => ?_)
            · try simp only [cnd] at hc6
              refine WX.region rfl ?_
              refine WXL.move Met.none rfl ?_
              refine WXL.move Met.none rfl ?_
              refine WXL.buildSlice (c := [_]) Met.none rfl elem50 sz22 zero22 (by decide) (by decide) rfl rfl rfl rfl (fun b132 => ?_)
              refine WXL.apG ((_, _) :: (bn, _) :: (b11, _) :: (b10, _) :: (b9, _) :: (b2, _) :: (bA, _) :: (bw, _) :: (Gs.flatten ++ Gg')) Met.none rfl rfl isrow50 elem50 sz22 by22 zero22 (Src.lit (cs := [_])) (fun a133 c133 G133 hG133 => ?_) (hO := (by simp only [List.append_assoc, List.cons_append]; exact rfl))
              refine WXL.of (fun s hs => St.eqv hs (by simp only [List.append_assoc, List.cons_append]; exact rfl)) ?_
              refine WXL.move Met.none rfl ?_
              refine WXL.move Met.none rfl ?_
              refine WXL.buildSlice (c := [_]) Met.none rfl elem22 sz3 zero3 (by decide) (by decide) rfl rfl rfl rfl (fun b136 => ?_)
              refine WXL.apG ((_, _) :: (_, _) :: (bn, _) :: (b11, _) :: (b10, _) :: (b9, _) :: (b2, _) :: (bA, _) :: (bw, _) :: (Gs.flatten ++ (Gg' ++ G133))) Met.none rfl rfl isrow22 elem22 sz3 by3 zero3 (Src.lit (cs := [_])) (fun a137 c137 G137 hG137 => ?_) (hO := (by simp only [List.append_assoc, List.cons_append]; exact rfl))
              refine WXL.assign Met.none rfl ?_
              refine WXL.assign Met.none rfl ?_
              refine WXL.nil ?_
              refine Fin.block_normal ?_
              first
              | (have hkn : ¬ k < 0 := by omega
                 have hmu : (nzSum n (changeW n (-(minA n g (ps.drop (fromK k)))) (ps.drop (fromK k)) g)).toNat < (nzSum n g).toNat := by omega
                 have hcnt2 : PL.length + (nzSum n (changeW n (-(minA n g (ps.drop (fromK k)))) (ps.drop (fromK k)) g)).toNat ≤ n.edges.length := by omega
                 refine Fin.loop_next (changeW n (-(minA n g (ps.drop (fromK k)))) (ps.drop (fromK k)) g, Gg', PL, Q, (aP, cP, GP), W, (aW, cW, GW)) ⟨hGg', m4, fun r hr => hgoal r (.more hs hend0 (by rw [if_neg hkn, if_neg hkn]; exact hr)), hPM, hGP, hGW, hcnt2, hWl⟩ hmu ?_
                 exact (fun s hs => hs.tl [1, 2, 3, 4, 5] 7))
              | (have hkn : k < 0 := hc6
                 have hcnt2 : PL.length + 1 + (nzSum n (changeW n (-(minA n g (ps.drop (fromK k)))) (ps.drop (fromK k)) g)).toNat ≤ n.edges.length := by omega
                 have hmu : (nzSum n (changeW n (-(minA n g (ps.drop (fromK k)))) (ps.drop (fromK k)) g)).toNat < (nzSum n g).toNat := by omega
                 have hW' : Grow 1 a137 (W ++ [minA n g (ps.drop (fromK k))]).length c137 ((W ++ [minA n g (ps.drop (fromK k))]).map I) G137 := by
                   rw [List.length_append, List.length_singleton, List.map_append]
                   exact hG137
                 have hP' : Grow 1 a133 (PL ++ [(⟨nodesOf n ps, some ⟨bn, 0, none⟩, ps.length + 1, cn⟩ : RowP Int)]).length c133 ((PL ++ [(⟨nodesOf n ps, some ⟨bn, 0, none⟩, ps.length + 1, cn⟩ : RowP Int)]).map encR) G133 := by
                   rw [List.length_append, List.length_singleton, List.map_append]
                   exact hG133
                 have hmp : (PL ++ [(⟨nodesOf n ps, some ⟨bn, 0, none⟩, ps.length + 1, cn⟩ : RowP Int)]).map (·.l) = PL.map (·.l) ++ [nodesOf n ps] := by simp
                 refine Fin.loop_next (changeW n (-(minA n g (ps.drop (fromK k)))) (ps.drop (fromK k)) g, Gg', PL ++ [(⟨nodesOf n ps, some ⟨bn, 0, none⟩, ps.length + 1, cn⟩ : RowP Int)], (bn, ⟨1, false, (nodesOf n ps).map I⟩) :: Q, (a133, c133, G133), W ++ [minA n g (ps.drop (fromK k))], (a137, c137, G137)) ⟨hGg', m4, fun r hr => hgoal r (.more hs hend0 (by rw [if_pos hkn, if_pos hkn, ← hmp]; exact hr)), ⟨rfl, fun p hp => ?_⟩, hP', hW', by simp only [List.length_append, List.length_singleton]; exact hcnt2, by simp only [List.length_append, List.length_singleton]; omega⟩ hmu ?_
                 · rcases List.mem_append.1 hp with hp | hp
                   · exact ⟨(hPM.row p hp).1, let ⟨b, h1, h2⟩ := (hPM.row p hp).2; ⟨b, h1, h2.cons⟩⟩
                   · rw [List.mem_singleton] at hp
                     subst hp
                     exact ⟨hnl.symm, bn, rfl, Knows.at 0 rfl⟩
                 · simp only [List.length_append, List.length_singleton]
                   exact fun s hs => St.tl [0, 1, 2, 3, 4] 5 (St.via (O' := (b11, ⟨0, false, [LeftV b9]⟩) :: (b10, ⟨0, false, [.slice (some ⟨bA, 0, none⟩) n.nodes.toNat cA]⟩) :: (b9, ⟨0, false, [.slice ag (changeW n (-(minA n g (ps.drop (fromK k)))) (ps.drop (fromK k)) g).length cg]⟩) :: (b2, ⟨0, false, [I n.nodes, I n.source, I n.sink, .slice a n.edges.length c]⟩) :: (bA, ⟨1, false, rowsV n n.edges.length A C⟩) :: (Gs.flatten ++ (Gg' ++ (G133 ++ (G137 ++ ((bn, ⟨1, false, (nodesOf n ps).map I⟩) :: (Q ++ O))))))) hs (fun h hh => by
                     simp only [List.append_assoc, List.cons_append] at hh
                     have h3 := Sat.mid (G := (bn, _) :: (b11, _) :: (b10, _) :: (b9, _) :: (b2, _) :: [(bA, _)]) (A := [(bw, _)]) (R := Gs.flatten ++ (Gg' ++ (G133 ++ (G137 ++ (Q ++ O))))) hh.tail.tail
                     have h5 := Sat.swap (G := [(bn, _)]) (A := (b11, _) :: (b10, _) :: (b9, _) :: (b2, _) :: (bA, _) :: (Gs.flatten ++ (Gg' ++ (G133 ++ G137)))) (R := Q ++ O) (by simpa only [List.append_assoc, List.cons_append, List.nil_append] using h3)
                     simpa only [List.append_assoc, List.cons_append, List.nil_append] using h5)))
            · try simp only [cnd] at hc6
              refine WX.skip ?_
              refine Fin.block_normal ?_
              first
              | (have hkn : ¬ k < 0 := by omega
                 have hmu : (nzSum n (changeW n (-(minA n g (ps.drop (fromK k)))) (ps.drop (fromK k)) g)).toNat < (nzSum n g).toNat := by omega
                 have hcnt2 : PL.length + (nzSum n (changeW n (-(minA n g (ps.drop (fromK k)))) (ps.drop (fromK k)) g)).toNat ≤ n.edges.length := by omega
                 refine Fin.loop_next (changeW n (-(minA n g (ps.drop (fromK k)))) (ps.drop (fromK k)) g, Gg', PL, Q, (aP, cP, GP), W, (aW, cW, GW)) ⟨hGg', m4, fun r hr => hgoal r (.more hs hend0 (by rw [if_neg hkn, if_neg hkn]; exact hr)), hPM, hGP, hGW, hcnt2, hWl⟩ hmu ?_
                 exact (fun s hs => hs.tl [1, 2, 3, 4, 5] 7))
              | (have hkn : k < 0 := hc6
                 have hcnt2 : PL.length + 1 + (nzSum n (changeW n (-(minA n g (ps.drop (fromK k)))) (ps.drop (fromK k)) g)).toNat ≤ n.edges.length := by omega
                 have hmu : (nzSum n (changeW n (-(minA n g (ps.drop (fromK k)))) (ps.drop (fromK k)) g)).toNat < (nzSum n g).toNat := by omega
                 have hW' : Grow 1 a137 (W ++ [minA n g (ps.drop (fromK k))]).length c137 ((W ++ [minA n g (ps.drop (fromK k))]).map I) G137 := by
                   rw [List.length_append, List.length_singleton, List.map_append]
                   exact hG137
                 have hP' : Grow 1 a133 (PL ++ [(⟨nodesOf n ps, some ⟨bn, 0, none⟩, ps.length + 1, cn⟩ : RowP Int)]).length c133 ((PL ++ [(⟨nodesOf n ps, some ⟨bn, 0, none⟩, ps.length + 1, cn⟩ : RowP Int)]).map encR) G133 := by
                   rw [List.length_append, List.length_singleton, List.map_append]
                   exact hG133
                 have hmp : (PL ++ [(⟨nodesOf n ps, some ⟨bn, 0, none⟩, ps.length + 1, cn⟩ : RowP Int)]).map (·.l) = PL.map (·.l) ++ [nodesOf n ps] := by simp
                 refine Fin.loop_next (changeW n (-(minA n g (ps.drop (fromK k)))) (ps.drop (fromK k)) g, Gg', PL ++ [(⟨nodesOf n ps, some ⟨bn, 0, none⟩, ps.length + 1, cn⟩ : RowP Int)], (bn, ⟨1, false, (nodesOf n ps).map I⟩) :: Q, (a133, c133, G133), W ++ [minA n g (ps.drop (fromK k))], (a137, c137, G137)) ⟨hGg', m4, fun r hr => hgoal r (.more hs hend0 (by rw [if_pos hkn, if_pos hkn, ← hmp]; exact hr)), ⟨rfl, fun p hp => ?_⟩, hP', hW', by simp only [List.length_append, List.length_singleton]; exact hcnt2, by simp only [List.length_append, List.length_singleton]; omega⟩ hmu ?_
                 · rcases List.mem_append.1 hp with hp | hp
                   · exact ⟨(hPM.row p hp).1, let ⟨b, h1, h2⟩ := (hPM.row p hp).2; ⟨b, h1, h2.cons⟩⟩
                   · rw [List.mem_singleton] at hp
                     subst hp
                     exact ⟨hnl.symm, bn, rfl, Knows.at 0 rfl⟩
                 · simp only [List.length_append, List.length_singleton]
                   exact fun s hs => St.tl [0, 1, 2, 3, 4] 5 (St.via (O' := (b11, ⟨0, false, [LeftV b9]⟩) :: (b10, ⟨0, false, [.slice (some ⟨bA, 0, none⟩) n.nodes.toNat cA]⟩) :: (b9, ⟨0, false, [.slice ag (changeW n (-(minA n g (ps.drop (fromK k)))) (ps.drop (fromK k)) g).length cg]⟩) :: (b2, ⟨0, false, [I n.nodes, I n.source, I n.sink, .slice a n.edges.length c]⟩) :: (bA, ⟨1, false, rowsV n n.edges.length A C⟩) :: (Gs.flatten ++ (Gg' ++ (G133 ++ (G137 ++ ((bn, ⟨1, false, (nodesOf n ps).map I⟩) :: (Q ++ O))))))) hs (fun h hh => by
                     simp only [List.append_assoc, List.cons_append] at hh
                     have h3 := Sat.mid (G := (bn, _) :: (b11, _) :: (b10, _) :: (b9, _) :: (b2, _) :: [(bA, _)]) (A := [(bw, _)]) (R := Gs.flatten ++ (Gg' ++ (G133 ++ (G137 ++ (Q ++ O))))) hh.tail.tail
                     have h5 := Sat.swap (G := [(bn, _)]) (A := (b11, _) :: (b10, _) :: (b9, _) :: (b2, _) :: (bA, _) :: (Gs.flatten ++ (Gg' ++ (G133 ++ G137)))) (R := Q ++ O) (by simpa only [List.append_assoc, List.cons_append, List.nil_append] using h3)
                     simpa only [List.append_assoc, List.cons_append, List.nil_append] using h5)))

end Go.Proofs.Ytjmklialkjncaaa.Eng

set_option linter.unusedVariables false
set_option linter.unusedSimpArgs false
namespace Go.Proofs.Ytjmklialkjncaaa.Eng

def Joined (n : Net4) (u v : Int) : Prop := ∃ i, i < n.edges.length ∧ (((nth n.edges i).a = u ∧ (nth n.edges i).b = v) ∨ ((nth n.edges i).a = v ∧ (nth n.edges i).b = u))

structure GoodPath (n : Net4) (p : List Int) : Prop where
  len : 2 ≤ p.length ∧ p.length ≤ n.edges.length + 1
  first : nth p 0 = n.source
  last : nth p (p.length - 1) = n.sink
  nodup : p.Nodup
  joined : ∀ t, t + 1 < p.length → Joined n (nth p t) (nth p (t + 1))

theorem chain_joined {n : Net4} (hn : Sound n) : ∀ {l : List (Nat × Int)} {u w : Int}, Chain n u l w → ∀ t, t < l.length → Joined n (nth (u :: l.map (·.2)) t) (nth (u :: l.map (·.2)) (t + 1))
  | [], u, w, _, t, ht => by simp at ht
  | q :: l, u, w, ⟨h1, h2, h3, h4⟩, 0, _ => by
    have he := hn.at h1
    refine ⟨q.1, h1, ?_⟩
    show ((nth n.edges q.1).a = u ∧ (nth n.edges q.1).b = q.2) ∨ ((nth n.edges q.1).a = q.2 ∧ (nth n.edges q.1).b = u)
    unfold otherR at h3
    split at h3 <;> omega
  | q :: l, u, w, ⟨_, _, _, h4⟩, t + 1, ht => chain_joined hn h4 t (by simpa using ht)

theorem good_path {n : Net4} (hn : Sound n) {g : List Int} {ps : List (Nat × Int)} {k : Int} (ht : TrTo n g [] ps k) (hk : k < 0) : GoodPath n (nodesOf n ps) := by
  obtain ⟨he, _⟩ := ht.ends hn (Tra.nil hn g)
  have hch := ht.chain hn rfl
  obtain ⟨p1, p2, p3⟩ := he.path hk
  have hsh := he.short
  have hl := he.len
  have hnl := nodesOf_len n ps
  refine ⟨⟨by omega, by omega⟩, rfl, ?_, p2, fun t htl => chain_joined hn hch t (by omega)⟩
  rw [hnl, Nat.add_sub_cancel, curr_nth]
  exact p1

def sumL (W : List Int) : Int := W.foldl (· + ·) 0

theorem sumL_snoc (W : List Int) (x : Int) : sumL (W ++ [x]) = sumL W + x := by unfold sumL; rw [List.foldl_append]; rfl

theorem paths_good {n : Net4} (hn : Sound n) {g : List Int} {P : List (List Int)} {W : List Int} {r : List (List Int) × List Int} (h : PathsTo n g P W r) : Bal n g → (∀ p ∈ P, GoodPath n p) → (∀ w ∈ W, 0 < w ∧ w ≤ 1099511627776) → W.length = P.length → (P.length : Int) + nzSum n g ≤ n.edges.length →
    (∀ p ∈ r.1, GoodPath n p) ∧ (∀ w ∈ r.2, 0 < w ∧ w ≤ 1099511627776) ∧ r.2.length = r.1.length ∧ (r.1.length : Int) ≤ n.edges.length := by
  induction h with
  | @done g P W h1 =>
    intro hb h2 h3 h4 h5
    have := nz_in n g
    exact ⟨h2, h3, h4, by show (P.length : Int) ≤ _; omega⟩
  | @more g P W ps k r h1 ht _ ih =>
    intro hb h2 h3 h4 h5
    obtain ⟨m1, m2, m3, m4, m5, m6⟩ := round_ok hn hb ht
    have hnz := nz_round hn hb ht
    refine ih m4 (fun p hp => ?_) (fun w hw => ?_) ?_ ?_
    · split at hp
      · rename_i hk
        rcases List.mem_append.1 hp with hp | hp
        · exact h2 p hp
        · rw [List.mem_singleton] at hp
          subst hp
          exact good_path hn ht hk
      · exact h2 p hp
    · split at hw
      · rcases List.mem_append.1 hw with hw | hw
        · exact h3 w hw
        · rw [List.mem_singleton] at hw
          subst hw
          exact ⟨m1, m2⟩
      · exact h3 w hw
    · split
      · rw [List.length_append, List.length_append, h4]; rfl
      · exact h4
    · split
      · rw [List.length_append, List.length_singleton]; omega
      · omega

/-- Nothing comes into the source. -/
def SrcOut (n : Net4) (g : List Int) : Prop := ∀ i, i < n.edges.length → 0 ≤ leaves n n.source i (nth g i)

theorem SrcOut.round {n : Net4} (hn : Sound n) {g : List Int} (hb : Bal n g) (hs : SrcOut n g) {ps : List (Nat × Int)} {k : Int} (ht : TrTo n g [] ps k) : SrcOut n (changeW n (-(minA n g (ps.drop (fromK k)))) (ps.drop (fromK k)) g) := by
  obtain ⟨he, _⟩ := ht.ends hn (Tra.nil hn g)
  obtain ⟨m1, m2, m3, _⟩ := round_ok hn hb ht
  have hnd : ((ps.drop (fromK k)).map (·.1)).Nodup := by
    rw [List.map_drop]
    exact (List.drop_sublist _ _).nodup he.edges
  have hgl := hb.len
  intro i hi
  have h0 := hs i hi
  by_cases hm : i ∈ (ps.drop (fromK k)).map (·.1)
  · obtain ⟨⟨i', w⟩, hq, e⟩ := List.mem_map.1 hm
    simp only at e
    subst e
    have h3 := m3 _ hq
    rw [changeW_mem (by omega) hnd hq]
    unfold amtTo at h3
    simp only at h3
    unfold leaves at h0 ⊢
    split at h3 <;> rename_i hbw
    · rw [if_pos hbw]; split <;> split <;> simp_all <;> omega
    · rw [if_neg hbw]; split <;> split <;> simp_all <;> omega
  · rw [changeW_other (by omega) hm]
    exact h0

theorem paths_sum {n : Net4} (hn : Sound n) {g : List Int} {P : List (List Int)} {W : List Int} {r : List (List Int) × List Int} (h : PathsTo n g P W r) : Bal n g → SrcOut n g → sumL r.2 = sumL W + netOut n g n.source := by
  induction h with
  | @done g P W h1 =>
    intro hb hs
    have hz : netOut n g n.source = 0 := by
      unfold netOut
      refine sumTo_zero fun i hi => ?_
      have h2 := goes_leaves (leave_not h1 i hi)
      have h3 := hs i hi
      omega
    rw [hz, Int.add_zero]
  | @more g P W ps k r h1 ht _ ih =>
    intro hb hs
    obtain ⟨m1, m2, m3, m4, m5, m6⟩ := round_ok hn hb ht
    rw [ih m4 (hs.round hn hb ht), m6]
    split
    · rw [sumL_snoc]; omega
    · omega

theorem SrcOut.max {n : Net4} (hn : Sound n) {f : List Int} {v : Int} {r : Int × List Int} (h : MaxTo n f v r) : f.length = n.edges.length → SrcOut n f → SrcOut n r.2 := by
  induction h with
  | done _ => exact fun _ h => h
  | @more f v p r hw _ ih =>
    intro hf hs
    obtain ⟨m1, m2⟩ := hw.min hn
    refine ih (by rw [changeW_length]; exact hf) fun i hi => ?_
    have h0 := hs i hi
    have he := hn.at hi
    by_cases hm : i ∈ p.map (·.1)
    · obtain ⟨⟨i', w⟩, hq, e⟩ := List.mem_map.1 hm
      simp only at e
      subst e
      have hws : w ≠ n.source := by
        have : ∀ {u : Int} {p : List (Nat × Int)}, Way n f (searchR n f true) u p → ∀ q ∈ p, q.2 ≠ n.source := by
          intro u p hp
          induction hp with
          | root => intro q hq; simp at hq
          | step _ _ _ _ _ _ _ h8 _ ih2 =>
            intro q hq
            rcases List.mem_cons.1 hq with rfl | hq
            · exact h8
            · exact ih2 q hq
        exact this hw _ hq
      have hep := (hw.edges _ hq).2.2.1
      rw [changeW_mem (by omega) hw.nodup hq]
      unfold leaves at h0 ⊢
      simp only at hep
      by_cases hb : (nth n.edges i').b = w
      · rw [if_pos hb]
        have hbs : ¬ (nth n.edges i').b = n.source := by omega
        rw [if_neg hbs] at h0 ⊢
        split at h0 <;> rename_i ha
        · rw [if_pos ha]; omega
        · rw [if_neg ha]; omega
      · rw [if_neg hb]
        have has : ¬ (nth n.edges i').a = n.source := by omega
        rw [if_neg has] at h0 ⊢
        split at h0 <;> rename_i ha
        · rw [if_pos ha]; omega
        · rw [if_neg ha]; omega
    · rw [changeW_other (by omega) hm]
      exact h0

theorem SrcOut.zero {n : Net4} : SrcOut n (zeros n) := fun i hi => by
  unfold zeros leaves
  rw [nth_replicate hi]
  split <;> split <;> decide

end Go.Proofs.Ytjmklialkjncaaa.Eng

set_option linter.unusedVariables false
set_option linter.unusedSimpArgs false
namespace Go.Proofs.Ytjmklialkjncaaa.Eng

/-- What the paths come to, with their error. -/
def PathsU (n : Net4) (f : List Int) (e : Int) (P : List (List Int)) (W : List Int) : Prop := ∃ x, ValR n f x e ∧ (e ≠ 0 → P = [] ∧ W = []) ∧ (e = 0 → PathsTo n f [] [] (P, W))

theorem PathsU.uniq {n : Net4} {f : List Int} {e e' : Int} {P P' : List (List Int)} {W W' : List Int} (h : PathsU n f e P W) (h' : PathsU n f e' P' W') : e = e' ∧ P = P' ∧ W = W' := by
  obtain ⟨x, h1, h2, h3⟩ := h
  obtain ⟨x', g1, g2, g3⟩ := h'
  obtain ⟨_, rfl⟩ := h1.uniq g1
  by_cases he : e = 0
  · have := (h3 he).uniq (g3 he)
    simp only [Prod.mk.injEq] at this
    exact ⟨rfl, this⟩
  · obtain ⟨a1, a2⟩ := h2 he
    obtain ⟨b1, b2⟩ := g2 he
    exact ⟨rfl, by rw [a1, b1], by rw [a2, b2]⟩

theorem PathsU.good {n : Net4} (hn : Sound n) {f : List Int} {e : Int} {P : List (List Int)} {W : List Int} (h : PathsU n f e P W) : (∀ p ∈ P, p.length ≤ n.edges.length + 1) ∧ W.length = P.length ∧ (P.length : Int) ≤ n.edges.length := by
  obtain ⟨x, h1, h2, h3⟩ := h
  by_cases he : e = 0
  · subst he
    have hok := h1.ok
    obtain ⟨a1, a2, a3, a4⟩ := paths_good hn (h3 rfl) (hok.2.1.bal hn) (by simp) (by simp) rfl (by have := nz_in n f; simp only [List.length_nil]; omega)
    exact ⟨fun p hp => (a1 p hp).len.2, a3, a4⟩
  · obtain ⟨rfl, rfl⟩ := h2 he
    exact ⟨by simp, rfl, by simp⟩

theorem PathsOut.all {n : Net4} {f : List Int} {O O' : Objs} {v : Value} (h : PathsOut n f O v O') : ∃ (e : Int) (PL : List (RowP Int)) (W : List Int) (Q : Objs) (aP : Option Addr) (cP : Nat) (GP : Objs) (aW : Option Addr) (cW : Nat) (GW : Objs),
    PathsU n f e (PL.map (·.l)) W ∧ PathMem (PL.map (·.l)) PL Q ∧ Grow 1 aP PL.length cP (PL.map encR) GP ∧ Grow 1 aW W.length cW (W.map I) GW ∧ PL.length ≤ 1000000000 ∧ v = .tuple #[.slice aP PL.length cP, .slice aW W.length cW, I e] ∧ O' = GP ++ (GW ++ (Q ++ O)) := by
  obtain ⟨x, e, hv, h1, h2⟩ := h
  by_cases he : e = 0
  · obtain ⟨r, PL, Q, aP, cP, GP, aW, cW, GW, k1, k2, k3, k4, k5, k6, k7⟩ := h2 he
    have hr : r = (PL.map (·.l), r.2) := by rw [k2.is]
    refine ⟨e, PL, r.2, Q, aP, cP, GP, aW, cW, GW, ⟨x, hv, fun q => absurd he q, fun _ => by rw [← hr]; exact k1⟩, by rw [k2.is]; exact k2, k3, k4, k5, by rw [he]; exact k6, k7⟩
  · obtain ⟨k1, k2⟩ := h1 he
    exact ⟨e, [], [], [], none, 0, [], none, 0, [], ⟨x, hv, fun _ => ⟨rfl, rfl⟩, fun q => absurd q he⟩, ⟨rfl, fun p hp => by simp at hp⟩, .nil, .nil, by simp, k1, k2⟩

theorem Sat.app_left {h : AHeap} {Q R : Objs} (hs : Sat h (Q ++ R)) : Sat h Q := by
  have h1 : Sat h (Q ++ (R ++ [])) := by rw [List.append_nil]; exact hs
  have := hs.perm List.perm_append_comm
  exact this.app_right

theorem Src.left {Q R : Objs} {sz n : Nat} {v : Value} {cs : List Value} (h : Src Q sz v n cs) : Src (Q ++ R) sz v n cs := fun g hg => h g hg.app_left

end Go.Proofs.Ytjmklialkjncaaa.Eng

set_option linter.unusedVariables false
set_option linter.unusedSimpArgs false
namespace Go.Proofs.Ytjmklialkjncaaa.Eng

theorem has_ok (O : Objs) (l : List Int) (v : Int) (a : Option Addr) (c : Nat) (hlen : l.length ≤ 1000000) (hl : Src O 1 (.slice a l.length c) l.length (l.map I)) (hv : v ∉ l) :
    Spec Try.prog true 32 #[.slice a l.length c, I v] O fun u O' => u = .bool false ∧ O' = O := by
  refine Spec.enter (args := [_, _]) (m := 18) Try.func32 rfl rfl (by decide +kernel) fun h0 => ?_
  refine WX.seq ?_
  refine WX.region rfl ?_
  refine WXL.assign Met.none rfl ?_
  refine WXL.nil ?_
  refine Fin.then_normal ?_
  refine WX.seq ?_
  refine WX.seq ?_
  refine WX.region rfl ?_
  refine WXL.assign Met.none rfl ?_
  refine WXL.nil ?_
  refine Fin.then_normal ?_
  refine WX.block ?_
  refine WX.loop (fun k : Nat => [(0, .slice a l.length c), (1, I v), (5, I (k : Int))]) (fun _ => O) (fun k => k ≤ l.length) (fun k => l.length - k) 0 (Nat.zero_le _) (fun s hs => hs.tl [] 0) (fun k hk => ?_)
  refine WX.seq ?_
  refine WX.seq ?_
  refine WX.region rfl ?_
  refine WXL.move Met.none rfl ?_
  refine WXL.move Met.none rfl ?_
  refine WXL.len Met.none rfl Try.underlying22 ?_
  refine WXL.bin Met.none rfl rfl rfl ?_
  refine WXL.nil ?_
  refine Fin.then_normal ?_
  refine WX.cond rfl (fun hc0 => ?_) (fun hc0 => ?_)
  · try simp only [cnd] at hc0
    refine WX.skip ?_
    refine Fin.then_normal ?_
    refine WX.seq ?_
    refine WX.block ?_
    refine WX.seq ?_
    refine WX.region rfl ?_
    refine WXL.move Met.none rfl ?_
    refine WXL.move Met.none rfl ?_
    first | refine WXL.ix Met.none rfl rfl elem22 sz3 ?_ | refine WXL.ixS Met.none rfl rfl elem22 sz3 ?_
    first | refine WXL.ld Met.none rfl agg3 ?_ | refine WXL.ldS Met.none rfl agg3 ?_
    refine WXL.move Met.none rfl ?_
    refine WXL.bin Met.none rfl rfl rfl ?_
    refine WXL.nil ?_
    refine Fin.then_normal ?_
    refine WX.cond rfl (fun hc1 => ?_) (fun hc1 => ?_)
    · try simp only [cnd] at hc1
      exact absurd (hc1 ▸ nth_mem (by omega)) hv --end
    · try simp only [cnd] at hc1
      refine WX.skip ?_
      refine Fin.block_normal ?_
      refine Fin.then_normal ?_
      refine WX.region rfl ?_
      refine WXL.move Met.none rfl ?_
      refine WXL.bin Met.none rfl rfl bvA ?_
      refine WXL.assign Met.none rfl ?_
      refine WXL.nil ?_
      exact Fin.loop_next (k + 1) (by omega) (by omega) (fun s hs => hs.tl [] 0)
  · try simp only [cnd] at hc0
    refine WX.exit ?_
    refine Fin.then_exit ?_
    refine Fin.loop_exit ?_
    refine Fin.block_hit rfl ?_
    refine Fin.then_normal ?_
    refine WX.seq ?_
    refine WX.region rfl ?_
    refine WXL.assign Met.none rfl ?_
    refine WXL.nil ?_
    refine Fin.then_normal ?_
    refine WX.ret ?_
    exact Fin.result (O' := O) (.inr rfl) rfl rfl drop_ ⟨rfl, rfl⟩

theorem joined_ok (O : Objs) (n : Net4) (u v : Int) (a : Option Addr) (c : Nat) (hlen : n.edges.length ≤ 1000000) (hl : Edges O n a c) (hj : Joined n u v) :
    Spec Try.prog true 33 #[netV n a c, I u, I v] O fun w O' => ∃ x : Bool, w = .bool x ∧ x = true ∧ O' = O := by
  refine Spec.enter (args := [_, _, _]) (m := 53) Try.func33 rfl rfl (by decide +kernel) fun h0 => ?_
  refine WX.seq ?_
  refine WX.region rfl ?_
  refine WXL.box (c := [_, _, _, _]) Met.none rfl rfl rfl (fun b3 => ?_)
  refine WXL.assign Met.none rfl ?_
  refine WXL.nil ?_
  refine Fin.then_normal ?_
  refine WX.seq ?_
  refine WX.seq ?_
  refine WX.region rfl ?_
  refine WXL.assign Met.none rfl ?_
  refine WXL.nil ?_
  refine Fin.then_normal ?_
  refine WX.block ?_
  refine WX.loop (fun k : Nat => [(1, I u), (2, I v), (3, Ptr b3 0), (7, I (k : Int))]) (fun _ => (b3, ⟨0, false, [I n.nodes, I n.source, I n.sink, .slice a n.edges.length c]⟩) :: O) (fun k => k ≤ n.edges.length ∧ ∀ j, j < k → ¬ (((nth n.edges j).a = u ∧ (nth n.edges j).b = v) ∨ ((nth n.edges j).a = v ∧ (nth n.edges j).b = u))) (fun k => n.edges.length - k) 0 ⟨Nat.zero_le _, fun j hj => absurd hj (Nat.not_lt_zero _)⟩ (fun s hs => hs.tl [0] 1) (fun k hk => ?_)
  obtain ⟨hk, hall⟩ := hk
  refine WX.seq ?_
  refine WX.seq ?_
  refine WX.region rfl ?_
  refine WXL.move Met.none rfl ?_
  refine WXL.fieldAddr (off' := 3) Met.none rfl Try.underlying36 rfl sz34 rfl ?_
  first | refine WXL.ld Met.none rfl agg34 ?_ | refine WXL.ldS Met.none rfl agg34 ?_
  refine WXL.len Met.none rfl Try.underlying34 ?_
  refine WXL.bin Met.none rfl rfl rfl ?_
  refine WXL.nil ?_
  refine Fin.then_normal ?_
  refine WX.cond rfl (fun hc0 => ?_) (fun hc0 => ?_)
  · try simp only [cnd] at hc0
    refine WX.skip ?_
    refine Fin.then_normal ?_
    refine WX.seq ?_
    refine WX.block ?_
    refine WX.seq ?_
    refine WX.region rfl ?_
    refine WXL.fieldAddr (off' := 3) Met.none rfl Try.underlying36 rfl sz34 rfl ?_
    first | refine WXL.ld Met.none rfl agg34 ?_ | refine WXL.ldS Met.none rfl agg34 ?_
    refine WXL.move Met.none rfl ?_
    first | refine WXL.ix Met.none rfl rfl elem34 sz44 ?_ | refine WXL.ixS Met.none rfl rfl elem34 sz44 ?_
    first | refine WXL.fieldAddr Met.none rfl Try.underlying44 rfl sz3 rfl ?_ | refine WXL.faS Met.none rfl Try.underlying44 rfl sz3 ?_
    first | refine WXL.ld Met.none rfl agg3 ?_ | refine WXL.ldS Met.none rfl agg3 ?_
    refine WXL.move Met.none rfl ?_
    refine WXL.bin Met.none rfl rfl rfl ?_
    refine WXL.move Met.none rfl ?_
    refine WXL.split (d := 23) rfl (fun hg23 => ?_) (fun hg23 => ?_)
    · try simp only [cnd] at hg23
      refine WXL.fieldAddr (off' := 3) (Met.some rfl rfl rfl) rfl Try.underlying36 rfl sz34 rfl ?_
      first | refine WXL.ld (Met.some rfl rfl rfl) rfl agg34 ?_ | refine WXL.ldS (Met.some rfl rfl rfl) rfl agg34 ?_
      refine WXL.move (Met.some rfl rfl rfl) rfl ?_
      first | refine WXL.ix (Met.some rfl rfl rfl) rfl rfl elem34 sz44 ?_ | refine WXL.ixS (Met.some rfl rfl rfl) rfl rfl elem34 sz44 ?_
      first | refine WXL.fieldAddr (Met.some rfl rfl rfl) rfl Try.underlying44 rfl sz3 rfl ?_ | refine WXL.faS (Met.some rfl rfl rfl) rfl Try.underlying44 rfl sz3 ?_
      first | refine WXL.ld (Met.some rfl rfl rfl) rfl agg3 ?_ | refine WXL.ldS (Met.some rfl rfl rfl) rfl agg3 ?_
      refine WXL.move (Met.some rfl rfl rfl) rfl ?_
      refine WXL.bin (Met.some rfl rfl rfl) rfl rfl rfl ?_
      refine WXL.pick_t Met.none rfl rfl ?_
      refine WXL.move Met.none rfl ?_
      refine WXL.split (d := 33) rfl (fun hg33 => ?_) (fun hg33 => ?_)
      · try simp only [cnd] at hg33
        refine WXL.miss (j := 18) (d := 33) rfl rfl rfl ?_
        refine WXL.miss (j := 18) (d := 33) rfl rfl rfl ?_
        refine WXL.miss (j := 18) (d := 33) rfl rfl rfl ?_
        refine WXL.miss (j := 18) (d := 33) rfl rfl rfl ?_
        refine WXL.miss (j := 18) (d := 33) rfl rfl rfl ?_
        refine WXL.miss (j := 18) (d := 33) rfl rfl rfl ?_
        refine WXL.miss (j := 18) (d := 33) rfl rfl rfl ?_
        refine WXL.miss (j := 18) (d := 33) rfl rfl rfl ?_
        refine WXL.miss (j := 18) (d := 33) rfl rfl rfl ?_
        refine WXL.missU (j := 27) (e := 42) rfl rfl ?_
        refine WXL.missU (j := 27) (e := 42) rfl rfl ?_
        refine WXL.missU (j := 27) (e := 42) rfl rfl ?_
        refine WXL.missU (j := 27) (e := 42) rfl rfl ?_
        refine WXL.missU (j := 27) (e := 42) rfl rfl ?_
        refine WXL.missU (j := 27) (e := 42) rfl rfl ?_
        refine WXL.missU (j := 27) (e := 42) rfl rfl ?_
        refine WXL.missU (j := 27) (e := 42) rfl rfl ?_
        refine WXL.miss (j := 18) (d := 33) rfl rfl rfl ?_
        refine WXL.pick_t Met.none rfl rfl ?_
        refine WXL.nil ?_
        refine Fin.then_normal ?_
        refine WX.cond rfl (fun hc1 => ?_) (fun hc1 => nomatch hc1)
        refine WX.seq ?_
        refine WX.region rfl ?_
        refine WXL.assign Met.none rfl ?_
        refine WXL.nil ?_
        refine Fin.then_normal ?_
        refine WX.ret ?_
        refine Fin.block_ret ?_
        refine Fin.then_ret ?_
        refine Fin.loop_ret ?_
        refine Fin.block_ret ?_
        refine Fin.then_ret ?_
        first
        | exact Fin.result (O' := O) (.inr rfl) rfl rfl drop_ ⟨true, rfl, rfl, rfl⟩
        | (exfalso
           obtain ⟨j, hj1, hj2⟩ := hj
           exact hall j (by omega) hj2)
      · try simp only [cnd] at hg33
        refine WXL.fieldAddr (off' := 3) (Met.some rfl rfl rfl) rfl Try.underlying36 rfl sz34 rfl ?_
        first | refine WXL.ld (Met.some rfl rfl rfl) rfl agg34 ?_ | refine WXL.ldS (Met.some rfl rfl rfl) rfl agg34 ?_
        refine WXL.move (Met.some rfl rfl rfl) rfl ?_
        first | refine WXL.ix (Met.some rfl rfl rfl) rfl rfl elem34 sz44 ?_ | refine WXL.ixS (Met.some rfl rfl rfl) rfl rfl elem34 sz44 ?_
        first | refine WXL.fieldAddr (Met.some rfl rfl rfl) rfl Try.underlying44 rfl sz3 rfl ?_ | refine WXL.faS (Met.some rfl rfl rfl) rfl Try.underlying44 rfl sz3 ?_
        first | refine WXL.ld (Met.some rfl rfl rfl) rfl agg3 ?_ | refine WXL.ldS (Met.some rfl rfl rfl) rfl agg3 ?_
        refine WXL.move (Met.some rfl rfl rfl) rfl ?_
        refine WXL.bin (Met.some rfl rfl rfl) rfl rfl rfl ?_
        refine WXL.move (Met.some rfl rfl rfl) rfl ?_
        refine WXL.split (d := 42) rfl (fun hg42 => ?_) (fun hg42 => ?_)
        · try simp only [cnd] at hg42
          refine WXL.fieldAddr (off' := 3) (Met.some rfl rfl rfl) rfl Try.underlying36 rfl sz34 rfl ?_
          first | refine WXL.ld (Met.some rfl rfl rfl) rfl agg34 ?_ | refine WXL.ldS (Met.some rfl rfl rfl) rfl agg34 ?_
          refine WXL.move (Met.some rfl rfl rfl) rfl ?_
          first | refine WXL.ix (Met.some rfl rfl rfl) rfl rfl elem34 sz44 ?_ | refine WXL.ixS (Met.some rfl rfl rfl) rfl rfl elem34 sz44 ?_
          first | refine WXL.fieldAddr (Met.some rfl rfl rfl) rfl Try.underlying44 rfl sz3 rfl ?_ | refine WXL.faS (Met.some rfl rfl rfl) rfl Try.underlying44 rfl sz3 ?_
          first | refine WXL.ld (Met.some rfl rfl rfl) rfl agg3 ?_ | refine WXL.ldS (Met.some rfl rfl rfl) rfl agg3 ?_
          refine WXL.move (Met.some rfl rfl rfl) rfl ?_
          refine WXL.bin (Met.some rfl rfl rfl) rfl rfl rfl ?_
          refine WXL.pick_t (Met.some rfl rfl rfl) rfl rfl ?_
          refine WXL.pick_f Met.none rfl rfl ?_
          refine WXL.nil ?_
          refine Fin.then_normal ?_
          refine WX.cond rfl (fun hc1 => ?_) (fun hc1 => ?_)
          · try simp only [cnd] at hc1
            refine WX.seq ?_
            refine WX.region rfl ?_
            refine WXL.assign Met.none rfl ?_
            refine WXL.nil ?_
            refine Fin.then_normal ?_
            refine WX.ret ?_
            refine Fin.block_ret ?_
            refine Fin.then_ret ?_
            refine Fin.loop_ret ?_
            refine Fin.block_ret ?_
            refine Fin.then_ret ?_
            first
            | exact Fin.result (O' := O) (.inr rfl) rfl rfl drop_ ⟨true, rfl, rfl, rfl⟩
            | (exfalso
               obtain ⟨j, hj1, hj2⟩ := hj
               exact hall j (by omega) hj2)
          · try simp only [cnd] at hc1
            refine WX.skip ?_
            refine Fin.block_normal ?_
            refine Fin.then_normal ?_
            refine WX.region rfl ?_
            refine WXL.move Met.none rfl ?_
            refine WXL.bin Met.none rfl rfl bvA ?_
            refine WXL.assign Met.none rfl ?_
            refine WXL.nil ?_
            refine Fin.loop_next (k + 1) ⟨by omega, fun j hj => ?_⟩ (by omega) (fun s hs => hs.tl [0] 1)
            rcases Nat.lt_or_ge j k with q | q
            · exact hall j q
            · have e : j = k := by omega
              subst e
              omega
        · try simp only [cnd] at hg42
          refine WXL.miss (j := 27) (d := 42) rfl rfl rfl ?_
          refine WXL.miss (j := 27) (d := 42) rfl rfl rfl ?_
          refine WXL.miss (j := 27) (d := 42) rfl rfl rfl ?_
          refine WXL.miss (j := 27) (d := 42) rfl rfl rfl ?_
          refine WXL.miss (j := 27) (d := 42) rfl rfl rfl ?_
          refine WXL.miss (j := 27) (d := 42) rfl rfl rfl ?_
          refine WXL.miss (j := 27) (d := 42) rfl rfl rfl ?_
          refine WXL.miss (j := 27) (d := 42) rfl rfl rfl ?_
          refine WXL.pick_f (Met.some rfl rfl rfl) rfl rfl ?_
          refine WXL.pick_f Met.none rfl rfl ?_
          refine WXL.nil ?_
          refine Fin.then_normal ?_
          refine WX.cond rfl (fun hc1 => nomatch hc1) (fun hc1 => ?_)
          refine WX.skip ?_
          refine Fin.block_normal ?_
          refine Fin.then_normal ?_
          refine WX.region rfl ?_
          refine WXL.move Met.none rfl ?_
          refine WXL.bin Met.none rfl rfl bvA ?_
          refine WXL.assign Met.none rfl ?_
          refine WXL.nil ?_
          refine Fin.loop_next (k + 1) ⟨by omega, fun j hj => ?_⟩ (by omega) (fun s hs => hs.tl [0] 1)
          rcases Nat.lt_or_ge j k with q | q
          · exact hall j q
          · have e : j = k := by omega
            subst e
            omega
    · try simp only [cnd] at hg23
      refine WXL.miss (j := 8) (d := 23) rfl rfl rfl ?_
      refine WXL.miss (j := 8) (d := 23) rfl rfl rfl ?_
      refine WXL.miss (j := 8) (d := 23) rfl rfl rfl ?_
      refine WXL.miss (j := 8) (d := 23) rfl rfl rfl ?_
      refine WXL.miss (j := 8) (d := 23) rfl rfl rfl ?_
      refine WXL.miss (j := 8) (d := 23) rfl rfl rfl ?_
      refine WXL.miss (j := 8) (d := 23) rfl rfl rfl ?_
      refine WXL.miss (j := 8) (d := 23) rfl rfl rfl ?_
      refine WXL.pick_f Met.none rfl rfl ?_
      refine WXL.move Met.none rfl ?_
      refine WXL.fieldAddr (off' := 3) (Met.some rfl rfl rfl) rfl Try.underlying36 rfl sz34 rfl ?_
      first | refine WXL.ld (Met.some rfl rfl rfl) rfl agg34 ?_ | refine WXL.ldS (Met.some rfl rfl rfl) rfl agg34 ?_
      refine WXL.move (Met.some rfl rfl rfl) rfl ?_
      first | refine WXL.ix (Met.some rfl rfl rfl) rfl rfl elem34 sz44 ?_ | refine WXL.ixS (Met.some rfl rfl rfl) rfl rfl elem34 sz44 ?_
      first | refine WXL.fieldAddr (Met.some rfl rfl rfl) rfl Try.underlying44 rfl sz3 rfl ?_ | refine WXL.faS (Met.some rfl rfl rfl) rfl Try.underlying44 rfl sz3 ?_
      first | refine WXL.ld (Met.some rfl rfl rfl) rfl agg3 ?_ | refine WXL.ldS (Met.some rfl rfl rfl) rfl agg3 ?_
      refine WXL.move (Met.some rfl rfl rfl) rfl ?_
      refine WXL.bin (Met.some rfl rfl rfl) rfl rfl rfl ?_
      refine WXL.move (Met.some rfl rfl rfl) rfl ?_
      refine WXL.split (d := 42) rfl (fun hg42 => ?_) (fun hg42 => ?_)
      · try simp only [cnd] at hg42
        refine WXL.fieldAddr (off' := 3) (Met.some rfl rfl rfl) rfl Try.underlying36 rfl sz34 rfl ?_
        first | refine WXL.ld (Met.some rfl rfl rfl) rfl agg34 ?_ | refine WXL.ldS (Met.some rfl rfl rfl) rfl agg34 ?_
        refine WXL.move (Met.some rfl rfl rfl) rfl ?_
        first | refine WXL.ix (Met.some rfl rfl rfl) rfl rfl elem34 sz44 ?_ | refine WXL.ixS (Met.some rfl rfl rfl) rfl rfl elem34 sz44 ?_
        first | refine WXL.fieldAddr (Met.some rfl rfl rfl) rfl Try.underlying44 rfl sz3 rfl ?_ | refine WXL.faS (Met.some rfl rfl rfl) rfl Try.underlying44 rfl sz3 ?_
        first | refine WXL.ld (Met.some rfl rfl rfl) rfl agg3 ?_ | refine WXL.ldS (Met.some rfl rfl rfl) rfl agg3 ?_
        refine WXL.move (Met.some rfl rfl rfl) rfl ?_
        refine WXL.bin (Met.some rfl rfl rfl) rfl rfl rfl ?_
        refine WXL.pick_t (Met.some rfl rfl rfl) rfl rfl ?_
        refine WXL.pick_f Met.none rfl rfl ?_
        refine WXL.nil ?_
        refine Fin.then_normal ?_
        refine WX.cond rfl (fun hc1 => ?_) (fun hc1 => ?_)
        · try simp only [cnd] at hc1
          refine WX.seq ?_
          refine WX.region rfl ?_
          refine WXL.assign Met.none rfl ?_
          refine WXL.nil ?_
          refine Fin.then_normal ?_
          refine WX.ret ?_
          refine Fin.block_ret ?_
          refine Fin.then_ret ?_
          refine Fin.loop_ret ?_
          refine Fin.block_ret ?_
          refine Fin.then_ret ?_
          first
          | exact Fin.result (O' := O) (.inr rfl) rfl rfl drop_ ⟨true, rfl, rfl, rfl⟩
          | (exfalso
             obtain ⟨j, hj1, hj2⟩ := hj
             exact hall j (by omega) hj2)
        · try simp only [cnd] at hc1
          refine WX.skip ?_
          refine Fin.block_normal ?_
          refine Fin.then_normal ?_
          refine WX.region rfl ?_
          refine WXL.move Met.none rfl ?_
          refine WXL.bin Met.none rfl rfl bvA ?_
          refine WXL.assign Met.none rfl ?_
          refine WXL.nil ?_
          refine Fin.loop_next (k + 1) ⟨by omega, fun j hj => ?_⟩ (by omega) (fun s hs => hs.tl [0] 1)
          rcases Nat.lt_or_ge j k with q | q
          · exact hall j q
          · have e : j = k := by omega
            subst e
            omega
      · try simp only [cnd] at hg42
        refine WXL.miss (j := 27) (d := 42) rfl rfl rfl ?_
        refine WXL.miss (j := 27) (d := 42) rfl rfl rfl ?_
        refine WXL.miss (j := 27) (d := 42) rfl rfl rfl ?_
        refine WXL.miss (j := 27) (d := 42) rfl rfl rfl ?_
        refine WXL.miss (j := 27) (d := 42) rfl rfl rfl ?_
        refine WXL.miss (j := 27) (d := 42) rfl rfl rfl ?_
        refine WXL.miss (j := 27) (d := 42) rfl rfl rfl ?_
        refine WXL.miss (j := 27) (d := 42) rfl rfl rfl ?_
        refine WXL.pick_f (Met.some rfl rfl rfl) rfl rfl ?_
        refine WXL.pick_f Met.none rfl rfl ?_
        refine WXL.nil ?_
        refine Fin.then_normal ?_
        refine WX.cond rfl (fun hc1 => nomatch hc1) (fun hc1 => ?_)
        refine WX.skip ?_
        refine Fin.block_normal ?_
        refine Fin.then_normal ?_
        refine WX.region rfl ?_
        refine WXL.move Met.none rfl ?_
        refine WXL.bin Met.none rfl rfl bvA ?_
        refine WXL.assign Met.none rfl ?_
        refine WXL.nil ?_
        refine Fin.loop_next (k + 1) ⟨by omega, fun j hj => ?_⟩ (by omega) (fun s hs => hs.tl [0] 1)
        rcases Nat.lt_or_ge j k with q | q
        · exact hall j q
        · have e : j = k := by omega
          subst e
          omega
  · try simp only [cnd] at hc0
    refine WX.exit ?_
    refine Fin.then_exit ?_
    refine Fin.loop_exit ?_
    refine Fin.block_hit rfl ?_
    refine Fin.then_normal ?_
    refine WX.seq ?_
    refine WX.region rfl ?_
    refine WXL.assign Met.none rfl ?_
    refine WXL.nil ?_
    refine Fin.then_normal ?_
    refine WX.ret ?_
    first
    | exact Fin.result (O' := O) (.inr rfl) rfl rfl drop_ ⟨true, rfl, rfl, rfl⟩
    | (exfalso
       obtain ⟨j, hj1, hj2⟩ := hj
       exact hall j (by omega) hj2)

theorem has_take (O : Objs) (l : List Int) (k : Nat) (a : Option Addr) (c : Nat) (hlen : l.length ≤ 1000000) (hk : k < l.length) (hnd : l.Nodup) (hr : Rowy O 1 a l.length (l.map I)) (ha : a ≠ none) :
    Spec Try.prog true 32 #[.slice a k c, I (nth l k)] O fun u O' => ∃ x : Bool, u = .bool x ∧ x = false ∧ O' = O := by
  have htk : (l.take k).length = k := by rw [List.length_take]; omega
  have h := has_ok O (l.take k) (nth l k) a c (by omega) (by
    rw [htk, List.map_take]
    have h2 := (hr.pre (m := k) (by omega)).src (c := c) fun q => absurd q ha
    rwa [Nat.mul_one] at h2) (fun hm => by
    obtain ⟨j, hj, e⟩ := List.mem_iff_getElem.1 hm
    rw [List.getElem_take] at e
    rw [htk] at hj
    have h3 := nodup_nth hnd (i := j) (j := k) (by omega) hk (by rw [nth_get (by omega : j < l.length)]; exact e)
    omega)
  rw [htk] at h
  exact h.mono fun u O' ⟨h1, h2⟩ => ⟨false, h1, rfl, h2⟩

theorem PathsU.fine {n : Net4} (hn : Sound n) {f : List Int} {P : List (List Int)} {W : List Int} (h : PathsU n f 0 P W) : (∀ p ∈ P, GoodPath n p) ∧ (∀ w ∈ W, 0 < w ∧ w ≤ 1099511627776) ∧ W.length = P.length ∧ (P.length : Int) ≤ n.edges.length := by
  obtain ⟨x, h1, h2, h3⟩ := h
  have hok := h1.ok
  exact paths_good hn (h3 rfl) (hok.2.1.bal hn) (by simp) (by simp) rfl (by have := nz_in n f; simp only [List.length_nil]; omega)

theorem PathsU.sum {n : Net4} (hn : Sound n) {r : Int × List Int} {P : List (List Int)} {W : List Int} (h : PathsU n r.2 0 P W) (hr : MaxTo n (zeros n) 0 r) : sumL W = r.1 := by
  obtain ⟨x, h1, h2, h3⟩ := h
  have ok := hr.ok hn
  have := paths_sum hn (h3 rfl) (ok.flow.bal hn) (SrcOut.max hn hr (by unfold zeros; simp) SrcOut.zero)
  rw [ok.val, ← Int.zero_add (netOut _ _ _)]
  exact this

theorem PathsU.err {n : Net4} (hn : Sound n) {f : List Int} {e : Int} {P : List (List Int)} {W : List Int} (h : PathsU n f e P W) : (e = 0 ∨ e = 1) ∧ (FlowOk n f → e = 0) := by
  obtain ⟨x, ⟨k, w, h1, h2⟩, _⟩ := h
  rcases h2 (hn.wrong w) with ⟨a, b, c⟩ | ⟨a, b, c⟩
  · exact ⟨.inl c, fun _ => c⟩
  · exact ⟨.inr c, fun q => absurd q a⟩

theorem sum_bounds {W : List Int} (h : ∀ w ∈ W, 0 < w ∧ w ≤ 1099511627776) : 0 ≤ sumL W ∧ sumL W ≤ 1099511627776 * W.length := by
  rcases List.eq_nil_or_concat W with rfl | ⟨l, x, rfl⟩
  · exact ⟨Int.le_refl _, Int.le_refl _⟩
  · rw [List.concat_eq_append] at h ⊢
    have h1 := sum_bounds (W := l) fun w hw => h w (List.mem_append_left _ hw)
    have h2 := h x (by simp)
    rw [sumL_snoc, List.length_append, List.length_singleton]
    omega
termination_by W.length
decreasing_by subst_vars; simp

theorem sum_take {W : List Int} {j : Nat} (hj : j < W.length) : sumL (W.take (j + 1)) = sumL (W.take j) + nth W j := by
  rw [List.take_add_one, List.getElem?_eq_getElem hj, nth_get hj]
  exact sumL_snoc _ _

theorem flowWays_ok (O : Objs) (l m : List Int) (a am : Option Addr) (c cm : Nat) (hl : Src O 1 (.slice a l.length c) l.length (l.map I)) (h64 : All64 l) (hlen : Short l) (hm : Src O 1 (.slice am m.length cm) m.length (m.map I)) (m64 : All64 m) (mlen : Short m) :
    Spec Try.prog false 9 #[.slice a l.length c, .slice am m.length cm] O fun v _ => v = .bool true := by
  have hnl := netOf_len l
  have hn := netOf_sound l
  have hnn := hn.nodes
  refine Spec.enter (args := [_, _]) (m := 150) Try.func9 rfl rfl (by decide +kernel) fun h0 => ?_
  refine WX.seq ?_
  refine WX.region rfl ?_
  refine WXL.assign Met.none rfl ?_
  refine WXL.nil ?_
  refine Fin.then_normal ?_
  refine WX.seq ?_
  refine WX.region rfl ?_
  refine WXL.move Met.none rfl ?_
  refine WXL.cl (O1 := _) Met.none rfl (fnOk_of Try.func11 (by decide +kernel)) rfl (fun _ h => h) (network_ok _ l a c src_ h64 hlen) (fun v O' hp => ?_)
  obtain ⟨a1, c1, G1, rfl, hG1, rfl⟩ := hp
  refine WXL.alloc (c := [_, _, _, _]) Met.none zero25 rfl (fun b5 => ?_)
  refine WXL.st (vs := [_, _, _, _]) (c' := [_, _, _, _]) Met.none rfl rfl rfl sz25 ?_
  refine WXL.nil ?_
  refine Fin.then_normal ?_
  refine WX.seq ?_
  refine WX.region rfl ?_
  refine WXL.ldN (vs := [_, _, _, _]) Met.none rfl agg25 sz25 ?_
  refine WXL.cl (O1 := _) Met.none rfl (fnOk_of Try.func16 (by decide +kernel)) rfl (fun _ h => h) (own_ok _ (netOf l) a1 c1 src_ (by omega)) (fun v O' hp => ?_)
  obtain ⟨a3, c3, G3, rfl, hG3, rfl⟩ := hp
  refine WXL.of (fun s hs => St.swap (G := G3) [_] hs) ?_
  refine WXL.alloc (c := [_, _, _, _]) Met.none zero36 rfl (fun b6 => ?_)
  refine WXL.st (vs := [_, _, _, _]) (c' := [_, _, _, _]) Met.none rfl rfl rfl sz36 ?_
  refine WXL.nil ?_
  refine Fin.then_normal ?_
  refine WX.seq ?_
  refine WX.region rfl ?_
  refine WXL.ldN (vs := [_, _, _, _]) Met.none rfl agg36 sz36 ?_
  refine WXL.cl (O1 := _) Met.none rfl (fnOk_of Try.func15 (by decide +kernel)) rfl (fun _ h => h) (max_ok _ (netOf l) a3 c3 src_ (by omega)) (fun v O' hp => ?_)
  obtain ⟨e1, hw1, hm1, _⟩ := hp
  have he1 := hn.wrong hw1
  subst he1
  obtain ⟨r, aB, cB, GB, hr, hin, rfl, hGB, rfl⟩ := hm1 rfl
  have ok1 := hr.ok hn
  have hrl := hin.flow.len
  refine WXL.of (fun s hs => St.swap (G := GB) [_, _] hs) ?_
  refine WXL.move Met.none rfl ?_
  refine WXL.extract Met.none rfl rfl ?_
  refine WXL.extract Met.none rfl rfl ?_
  refine WXL.extract Met.none rfl rfl ?_
  refine WXL.assign Met.none rfl ?_
  refine WXL.assign Met.none rfl ?_
  refine WXL.assign Met.none rfl ?_
  refine WXL.nil ?_
  refine Fin.then_normal ?_
  refine WX.seq ?_
  refine WX.region rfl ?_
  refine WXL.move Met.none rfl ?_
  refine WXL.ldN (vs := [_, _, _, _]) Met.none rfl agg25 sz25 ?_
  refine WXL.move Met.none rfl ?_
  refine WXL.cl (O1 := _) Met.none rfl (fnOk_of Try.func20 (by decide +kernel)) rfl (fun _ h => h) (flows_ok _ (netOf l) m a1 am c1 cm hn src_ src_ m64 mlen) (fun v O' hp => ?_)
  obtain ⟨fl, aF, cF, mF, GF, rfl, rfl, hfl, hGF, rfl⟩ := hp
  refine WXL.of (fun s hs => St.swap (G := GF) [_, _] hs) ?_
  refine WXL.buildSlice (c := [_, _]) Met.none rfl elem50 sz22 zero22 (by decide) (by decide) rfl rfl rfl rfl (fun b33 => ?_)
  refine WXL.assign Met.none rfl ?_
  refine WXL.nil ?_
  refine Fin.then_normal ?_
  refine WX.seq ?_
  refine WX.seq ?_
  refine WX.region rfl ?_
  refine WXL.assign Met.none rfl ?_
  refine WXL.nil ?_
  refine Fin.then_normal ?_
  refine WX.block ?_
  obtain ⟨Fl, hFl⟩ : ∃ Fl : List (RowP Int), Fl = [⟨r.2, aB, r.2.length, cB⟩, ⟨fl, aF, fl.length, cF⟩] := ⟨_, rfl⟩
  have hFll : Fl.length = 2 := by rw [hFl]; rfl
  have hF0 : (nth Fl 0).l = r.2 := by rw [hFl]; rfl
  obtain ⟨T, hT⟩ : ∃ T : Objs, T = (GF ++ (GB ++ (G3 ++ (G1 ++ O)))) := ⟨_, rfl⟩
  have hE : Edges T (netOf l) a3 c3 := by
    rw [hT]
    exact Src.app (Src.app hG3.src)
  have hF : ∀ k, k < 2 → Src T 1 (.slice (nth Fl k).a (nth Fl k).n (nth Fl k).c) (nth Fl k).n ((nth Fl k).l.map I) ∧ (nth Fl k).n = (nth Fl k).l.length ∧ ((nth Fl k).a = none → (nth Fl k).l = []) := by
    intro k hk
    rw [hT, hFl]
    have : k = 0 ∨ k = 1 := by omega
    rcases this with rfl | rfl
    · exact ⟨Src.app hGB.src, rfl, fun h => List.length_eq_zero_iff.1 (hGB.nil0 h).2⟩
    · exact ⟨hGF.src, rfl, fun h => List.length_eq_zero_iff.1 (hGF.nil0 h).2⟩
  refine WX.loop (fun k : Nat => [(6, Ptr b6 0), (7, I r.1), (9, I 0), (10, Row b33 0 2 2), (11, I (k : Int))]) (fun _ => (b33, ⟨1, false, Fl.map encR⟩) :: (b6, ⟨0, false, [I (netOf l).nodes, I (netOf l).source, I (netOf l).sink, .slice a3 (netOf l).edges.length c3]⟩) :: T) (fun k => k ≤ 2) (fun k => 2 - k) 0 (by omega) ?_ (fun k hk => ?_)
  · rw [hFl, hT]
    exact (fun s hs => hs.tl [0, 1] 3)
  refine WX.seq ?_
  refine WX.seq ?_
  refine WX.region rfl ?_
  refine WXL.move Met.none rfl ?_
  refine WXL.bin Met.none rfl rfl rfl ?_
  refine WXL.nil ?_
  refine Fin.then_normal ?_
  refine WX.cond rfl (fun hc0 => ?_) (fun hc0 => ?_)
  · try simp only [cnd] at hc0
    refine WX.skip ?_
    refine Fin.then_normal ?_
    refine WX.seq ?_
    refine WX.block ?_
    refine WX.seq ?_
    obtain ⟨hFs, hFn, hFnil⟩ := hF k (by omega)
    have hFk : k < Fl.length := by omega
    rw [hFn] at hFs
    refine WX.draw rfl ?_
    refine WXL.ldN (vs := [_, _, _, _]) Met.none rfl agg36 sz36 ?_
    refine WXL.move Met.none rfl ?_
    refine WXL.move Met.none rfl ?_
    first | refine WXL.ix Met.none rfl rfl elem50 sz22 ?_ | refine WXL.ixS Met.none rfl rfl elem50 sz22 ?_
    first | refine WXL.ld Met.none rfl agg22 ?_ (hv := (cell_map encR Fl k hFk)) | refine WXL.ldS Met.none rfl agg22 ?_ (hv := (cell_map encR Fl k hFk))
    rw [show encR (nth Fl k) = .slice (nth Fl k).a (nth Fl k).l.length (nth Fl k).c from by unfold encR; rw [hFn]]
    refine WXL.cl (O1 := _) Met.none rfl (fnOk_of Try.func30 (by decide +kernel)) rfl (fun _ h => h) (paths_ok _ (netOf l) (nth Fl k).l a3 (nth Fl k).a c3 (nth Fl k).c (by omega) hFnil src_ src_) (fun v O' hp => ?_)
    obtain hp := hp
    obtain ⟨e1, PL, W, Q, aP, cP, GP, aW, cW, GW, hu, hm1, hgp, hgw, hl1, rfl, rfl⟩ := hp.all
    have hue := hu.err hn
    refine WXL.of (O' := (b33, ⟨1, false, Fl.map encR⟩) :: (b6, ⟨0, false, [I (netOf l).nodes, I (netOf l).source, I (netOf l).sink, .slice a3 (netOf l).edges.length c3]⟩) :: (GP ++ (GW ++ (Q ++ T)))) (fun s hs => St.via hs (fun h hh => by simpa only [List.append_assoc, List.cons_append, List.nil_append] using Sat.swap (G := GP ++ (GW ++ Q)) (A := [(b33, _), (b6, _)]) (R := T) (by simpa only [List.append_assoc, List.cons_append, List.nil_append] using hh))) ?_
    refine WXL.move Met.none rfl ?_
    refine WXL.extract Met.none rfl rfl ?_
    refine WXL.extract Met.none rfl rfl ?_
    refine WXL.extract Met.none rfl rfl ?_
    refine WXL.assign Met.none rfl ?_
    refine WXL.assign Met.none rfl ?_
    refine WXL.assign Met.none rfl ?_
    refine WXL.nil ?_
    refine Fin.then_normal ?_
    refine WX.seq ?_
    refine WX.seq ?_
    refine WX.region rfl ?_
    refine WXL.move Met.none rfl ?_
    refine WXL.bin Met.none rfl rfl rfl ?_
    refine WXL.nil ?_
    refine Fin.then_normal ?_
    refine WX.cond rfl (fun hc1 => ?_) (fun hc1 => ?_)
    · try simp only [cnd] at hc1
      refine WX.seq ?_
      refine WX.seq ?_
      have he11 : e1 = 1 := by omega
      have hk0 : k ≠ 0 := fun q => by
        subst q
        rw [hF0] at hue
        exact hc1 (hue.2 ok1.flow)
      refine WX.region rfl ?_
      refine WXL.move Met.none rfl ?_
      refine WXL.bin Met.none rfl rfl rfl ?_
      refine WXL.move Met.none rfl ?_
      refine WXL.split (d := 52) rfl (fun hg52 => ?_) (fun hg52 => ?_)
      · try simp only [cnd] at hg52
        exact absurd hg52 (by omega) --end
      · try simp only [cnd] at hg52
        refine WXL.move (Met.some rfl rfl rfl) rfl ?_
        refine WXL.bin (Met.some rfl rfl rfl) rfl rfl rfl ?_
        refine WXL.pick_f Met.none rfl rfl ?_
        refine WXL.nil ?_
        refine Fin.then_normal ?_
        refine WX.cond rfl (fun hc2 => ?_) (fun hc2 => ?_)
        · try simp only [cnd] at hc2
          exact absurd hc2 (by omega) --end
        · try simp only [cnd] at hc2
          refine WX.skip ?_
          refine Fin.then_normal ?_
          refine WX.exit ?_
          refine Fin.then_exit ?_
          refine Fin.block_hit rfl ?_
          refine Fin.then_normal ?_
          refine WX.region rfl ?_
          refine WXL.move Met.none rfl ?_
          refine WXL.bin Met.none rfl rfl bvA ?_
          refine WXL.assign Met.none rfl ?_
          refine WXL.nil ?_
          first
          | exact Fin.loop_next (k + 1) (by omega) (by omega) (fun s hs => St.tl [0, 1] 2 (St.via (O' := (b33, ⟨1, false, Fl.map encR⟩) :: (b6, ⟨0, false, [I (netOf l).nodes, I (netOf l).source, I (netOf l).sink, .slice a3 (netOf l).edges.length c3]⟩) :: T) hs (fun h hh => by
            have h1 : Sat h ([(b33, ⟨1, false, Fl.map encR⟩), (b6, ⟨0, false, [I (netOf l).nodes, I (netOf l).source, I (netOf l).sink, .slice a3 (netOf l).edges.length c3]⟩)] ++ ((GP ++ (GW ++ Q)) ++ T)) := by simpa only [List.append_assoc, List.cons_append, List.nil_append] using hh
            exact h1.mid)))
    · try simp only [cnd] at hc1
      refine WX.skip ?_
      refine Fin.then_normal ?_
      refine WX.seq ?_
      have he10 : e1 = 0 := by omega
      subst he10
      obtain ⟨hgood, hWp, hWl, hPl⟩ := hu.fine hn
      rw [List.length_map] at hWl hPl
      have hWb : ∀ i, i < W.length → 0 < nth W i ∧ nth W i ≤ 1099511627776 := fun i hi => hWp _ (nth_mem hi)
      refine WX.region rfl ?_
      refine WXL.assign Met.none rfl ?_
      refine WXL.nil ?_
      refine Fin.then_normal ?_
      refine WX.seq ?_
      refine WX.seq ?_
      refine WX.region rfl ?_
      refine WXL.move Met.none rfl ?_
      refine WXL.len Met.none rfl Try.underlying22 ?_
      refine WXL.move Met.none rfl ?_
      refine WXL.len Met.none rfl Try.underlying50 ?_
      refine WXL.bin Met.none rfl rfl rfl ?_
      refine WXL.nil ?_
      refine Fin.then_normal ?_
      refine WX.cond rfl (fun hc3 => ?_) (fun hc3 => ?_)
      · try simp only [cnd] at hc3
        exact absurd hc3 (by omega) --end
      · try simp only [cnd] at hc3
        refine WX.skip ?_
        refine Fin.then_normal ?_
        refine WX.seq ?_
        refine WX.seq ?_
        refine WX.region rfl ?_
        refine WXL.assign Met.none rfl ?_
        refine WXL.nil ?_
        refine Fin.then_normal ?_
        refine WX.block ?_
        refine WX.loop (fun j : Nat => [(6, Ptr b6 0), (7, I r.1), (9, I 0), (10, Row b33 0 2 2), (11, I (k : Int)), (12, .slice aP PL.length cP), (13, .slice aW W.length cW), (15, I (sumL (W.take j))), (16, I (j : Int))]) (fun _ => (b33, ⟨1, false, Fl.map encR⟩) :: (b6, ⟨0, false, [I (netOf l).nodes, I (netOf l).source, I (netOf l).sink, .slice a3 (netOf l).edges.length c3]⟩) :: (GP ++ (GW ++ (Q ++ T)))) (fun j => j ≤ PL.length) (fun j => PL.length - j) 0 (by omega) (fun s hs => hs.tl [0, 1] 2) (fun j hj => ?_)
        refine WX.seq ?_
        refine WX.seq ?_
        refine WX.region rfl ?_
        refine WXL.move Met.none rfl ?_
        refine WXL.move Met.none rfl ?_
        refine WXL.len Met.none rfl Try.underlying50 ?_
        refine WXL.bin Met.none rfl rfl rfl ?_
        refine WXL.nil ?_
        refine Fin.then_normal ?_
        refine WX.cond rfl (fun hc4 => ?_) (fun hc4 => ?_)
        · try simp only [cnd] at hc4
          refine WX.skip ?_
          refine Fin.then_normal ?_
          refine WX.seq ?_
          refine WX.block ?_
          refine WX.seq ?_
          have hj1 : j < PL.length := by omega
          have hj2 : j < W.length := by omega
          obtain ⟨n1, row1, nn1⟩ := hm1.rowy (nth_mem hj1)
          have row2 : Rowy (Q ++ T) 1 (nth PL j).a (nth PL j).l.length ((nth PL j).l.map I) := by
            rcases row1 with q | ⟨b, off, y, q1, q2, q3⟩
            · exact .inl q
            · exact .inr ⟨b, off, y, q1, fun h hh => q2 h hh.app_left, q3⟩
          have s1 : Src (Q ++ T) 1 (.slice (nth PL j).a (nth PL j).l.length (nth PL j).c) (nth PL j).l.length ((nth PL j).l.map I) := row2.src fun q => absurd q nn1
          have gp := hgood (nth PL j).l (List.mem_map.2 ⟨_, nth_mem hj1, rfl⟩)
          obtain ⟨gl1, gl2⟩ := gp.len
          have gfirst : nth (nth PL j).l (Int.toNat 0) = _ := gp.first
          have glast := gp.last
          rw [show (nth PL j).l.length - 1 = (((nth PL j).l.length : Int) - 1).toNat from by omega] at glast
          have hwj := hWb j hj2
          have hsb := sum_bounds (W := W.take j) fun w hw => hWp w (List.mem_of_mem_take hw)
          have hst := sum_take hj2
          rw [List.length_take] at hsb
          refine WX.region rfl ?_
          refine WXL.move Met.none rfl ?_
          refine WXL.move Met.none rfl ?_
          first | refine WXL.ix Met.none rfl rfl elem50 sz22 ?_ | refine WXL.ixS Met.none rfl rfl elem50 sz22 ?_
          first | refine WXL.ld Met.none rfl agg22 ?_ (hv := (cell_map encR PL j hj1)) | refine WXL.ldS Met.none rfl agg22 ?_ (hv := (cell_map encR PL j hj1))
          rw [show encR (nth PL j) = .slice (nth PL j).a (nth PL j).l.length (nth PL j).c from by unfold encR; rw [n1]]
          refine WXL.assign Met.none rfl ?_
          refine WXL.nil ?_
          refine Fin.then_normal ?_
          refine WX.seq ?_
          refine WX.seq ?_
          refine WX.draw rfl ?_
          refine WXL.move Met.none rfl ?_
          refine WXL.len Met.none rfl Try.underlying22 ?_
          refine WXL.bin Met.none rfl rfl rfl ?_
          refine WXL.move Met.none rfl ?_
          refine WXL.split (d := 74) rfl (fun hg74 => ?_) (fun hg74 => ?_)
          · try simp only [cnd] at hg74
            exact absurd hg74 (by omega) --end
          · try simp only [cnd] at hg74
            refine WXL.move (Met.some rfl rfl rfl) rfl ?_
            first | refine WXL.ix (Met.some rfl rfl rfl) rfl rfl elem22 sz3 ?_ | refine WXL.ixS (Met.some rfl rfl rfl) rfl rfl elem22 sz3 ?_
            first | refine WXL.ld (Met.some rfl rfl rfl) rfl agg3 ?_ | refine WXL.ldS (Met.some rfl rfl rfl) rfl agg3 ?_
            refine WXL.fieldAddr (off' := 1) (Met.some rfl rfl rfl) rfl Try.underlying36 rfl sz3 rfl ?_
            first | refine WXL.ld (Met.some rfl rfl rfl) rfl agg3 ?_ | refine WXL.ldS (Met.some rfl rfl rfl) rfl agg3 ?_
            refine WXL.bin (Met.some rfl rfl rfl) rfl rfl rfl ?_
            refine WXL.pick_f Met.none rfl rfl ?_
            refine WXL.move Met.none rfl ?_
            refine WXL.split (d := 82) rfl (fun hg82 => ?_) (fun hg82 => ?_)
            · try simp only [cnd] at hg82
              exact absurd hg82 (by omega) --end
            · try simp only [cnd] at hg82
              refine WXL.move (Met.some rfl rfl rfl) rfl ?_
              refine WXL.move (Met.some rfl rfl rfl) rfl ?_
              refine WXL.len (Met.some rfl rfl rfl) rfl Try.underlying22 ?_
              refine WXL.bin (Met.some rfl rfl rfl) rfl rfl bvS ?_
              first | refine WXL.ix (Met.some rfl rfl rfl) rfl rfl elem22 sz3 ?_ | refine WXL.ixS (Met.some rfl rfl rfl) rfl rfl elem22 sz3 ?_
              first | refine WXL.ld (Met.some rfl rfl rfl) rfl agg3 ?_ | refine WXL.ldS (Met.some rfl rfl rfl) rfl agg3 ?_
              refine WXL.fieldAddr (off' := 2) (Met.some rfl rfl rfl) rfl Try.underlying36 rfl sz3 rfl ?_
              first | refine WXL.ld (Met.some rfl rfl rfl) rfl agg3 ?_ | refine WXL.ldS (Met.some rfl rfl rfl) rfl agg3 ?_
              refine WXL.bin (Met.some rfl rfl rfl) rfl rfl rfl ?_
              refine WXL.pick_f Met.none rfl rfl ?_
              refine WXL.move Met.none rfl ?_
              refine WXL.split (d := 93) rfl (fun hg93 => ?_) (fun hg93 => ?_)
              · try simp only [cnd] at hg93
                exact absurd hg93 (by omega) --end
              · try simp only [cnd] at hg93
                refine WXL.move (Met.some rfl rfl rfl) rfl ?_
                refine WXL.move (Met.some rfl rfl rfl) rfl ?_
                first | refine WXL.ix (Met.some rfl rfl rfl) rfl rfl elem22 sz3 ?_ | refine WXL.ixS (Met.some rfl rfl rfl) rfl rfl elem22 sz3 ?_
                first | refine WXL.ld (Met.some rfl rfl rfl) rfl agg3 ?_ | refine WXL.ldS (Met.some rfl rfl rfl) rfl agg3 ?_
                refine WXL.bin (Met.some rfl rfl rfl) rfl rfl rfl ?_
                refine WXL.pick_f Met.none rfl rfl ?_
                refine WXL.nil ?_
                refine Fin.then_normal ?_
                refine WX.cond rfl (fun hc5 => ?_) (fun hc5 => ?_)
                · try simp only [cnd] at hc5
                  exact absurd hc5 (by omega) --end
                · try simp only [cnd] at hc5
                  refine WX.skip ?_
                  refine Fin.then_normal ?_
                  refine WX.seq ?_
                  refine WX.seq ?_
                  refine WX.region rfl ?_
                  refine WXL.assign Met.none rfl ?_
                  refine WXL.nil ?_
                  refine Fin.then_normal ?_
                  refine WX.block ?_
                  refine WX.loop (fun t : Nat => [(6, Ptr b6 0), (7, I r.1), (9, I 0), (10, Row b33 0 2 2), (11, I (k : Int)), (12, .slice aP PL.length cP), (13, .slice aW W.length cW), (15, I (sumL (W.take j))), (16, I (j : Int)), (17, .slice (nth PL j).a (nth PL j).l.length (nth PL j).c), (18, I (t : Int))]) (fun _ => (b33, ⟨1, false, Fl.map encR⟩) :: (b6, ⟨0, false, [I (netOf l).nodes, I (netOf l).source, I (netOf l).sink, .slice a3 (netOf l).edges.length c3]⟩) :: (GP ++ (GW ++ (Q ++ T)))) (fun t => t ≤ (nth PL j).l.length) (fun t => (nth PL j).l.length - t) 0 (by omega) (fun s hs => hs.tl [0, 1] 2) (fun t ht => ?_)
                  refine WX.seq ?_
                  refine WX.seq ?_
                  refine WX.region rfl ?_
                  refine WXL.move Met.none rfl ?_
                  refine WXL.move Met.none rfl ?_
                  refine WXL.len Met.none rfl Try.underlying22 ?_
                  refine WXL.bin Met.none rfl rfl rfl ?_
                  refine WXL.nil ?_
                  refine Fin.then_normal ?_
                  refine WX.cond rfl (fun hc6 => ?_) (fun hc6 => ?_)
                  · try simp only [cnd] at hc6
                    refine WX.skip ?_
                    refine Fin.then_normal ?_
                    refine WX.seq ?_
                    refine WX.block ?_
                    refine WX.seq ?_
                    refine WX.draw rfl ?_
                    refine WXL.move Met.none rfl ?_
                    refine WXL.move Met.none rfl ?_
                    refine WXL.pre (m := t) Met.none rfl rfl elem22 sz3 rowy_ (fun q => absurd q nn1) ?_
                    refine WXL.move Met.none rfl ?_
                    refine WXL.move Met.none rfl ?_
                    first | refine WXL.ix Met.none rfl rfl elem22 sz3 ?_ | refine WXL.ixS Met.none rfl rfl elem22 sz3 ?_
                    first | refine WXL.ld Met.none rfl agg3 ?_ | refine WXL.ldS Met.none rfl agg3 ?_
                    refine WXL.cl (O1 := _) Met.none rfl (fnOk_of Try.func32 (by decide +kernel)) rfl (fun _ h => h) (has_take _ (nth PL j).l t (nth PL j).a _ (by omega) (by omega) gp.nodup rowy_ nn1) (fun v O' hp => ?_)
                    obtain ⟨x1, rfl, hx1, rfl⟩ := hp
                    refine WXL.move Met.none rfl ?_
                    refine WXL.split (d := 114) rfl (fun hg114 => ?_) (fun hg114 => ?_)
                    · try simp only [cnd] at hg114
                      exact absurd hg114 (by rw [hx1]; decide) --end
                    · try simp only [cnd] at hg114
                      refine WXL.move (Met.some rfl rfl rfl) rfl ?_
                      refine WXL.bin (Met.some rfl rfl rfl) rfl rfl rfl ?_
                      refine WXL.move (Met.some rfl rfl rfl) rfl ?_
                      refine WXL.split (d := 117) rfl (fun hg117 => ?_) (fun hg117 => ?_)
                      · try simp only [cnd] at hg117
                        refine WXL.ldN (vs := [_, _, _, _]) (Met.some rfl rfl rfl) rfl agg36 sz36 ?_
                        refine WXL.move (Met.some rfl rfl rfl) rfl ?_
                        refine WXL.move (Met.some rfl rfl rfl) rfl ?_
                        refine WXL.bin (Met.some rfl rfl rfl) rfl rfl bvS ?_
                        first | refine WXL.ix (Met.some rfl rfl rfl) rfl rfl elem22 sz3 ?_ | refine WXL.ixS (Met.some rfl rfl rfl) rfl rfl elem22 sz3 ?_
                        first | refine WXL.ld (Met.some rfl rfl rfl) rfl agg3 ?_ | refine WXL.ldS (Met.some rfl rfl rfl) rfl agg3 ?_
                        refine WXL.move (Met.some rfl rfl rfl) rfl ?_
                        refine WXL.move (Met.some rfl rfl rfl) rfl ?_
                        first | refine WXL.ix (Met.some rfl rfl rfl) rfl rfl elem22 sz3 ?_ | refine WXL.ixS (Met.some rfl rfl rfl) rfl rfl elem22 sz3 ?_
                        first | refine WXL.ld (Met.some rfl rfl rfl) rfl agg3 ?_ | refine WXL.ldS (Met.some rfl rfl rfl) rfl agg3 ?_
                        refine WXL.cl (O1 := _) (Met.some rfl rfl rfl) rfl (fnOk_of Try.func33 (by decide +kernel)) rfl (fun _ h => h) (joined_ok _ (netOf l) _ _ a3 c3 (by omega) src_ (by have := gp.joined (t - 1) (by omega); rw [show t - 1 + 1 = t from by omega] at this; rw [show ((t : Int) - 1).toNat = t - 1 from by omega]; exact this)) (fun v O' hp => ?_)
                        obtain ⟨x2, rfl, hx2, rfl⟩ := hp
                        refine WXL.not (Met.some rfl rfl rfl) rfl ?_
                        refine WXL.pick_t (Met.some rfl rfl rfl) rfl rfl ?_
                        refine WXL.pick_f Met.none rfl rfl ?_
                        refine WXL.nil ?_
                        refine Fin.then_normal ?_
                        refine WX.cond rfl (fun hc7 => ?_) (fun hc7 => ?_)
                        · try simp only [cnd] at hc7
                          exact absurd hc7 (by rw [hx2]; decide) --end
                        · try simp only [cnd] at hc7
                          refine WX.skip ?_
                          refine Fin.block_normal ?_
                          refine Fin.then_normal ?_
                          refine WX.region rfl ?_
                          refine WXL.move Met.none rfl ?_
                          refine WXL.bin Met.none rfl rfl bvA ?_
                          refine WXL.assign Met.none rfl ?_
                          refine WXL.nil ?_
                          exact Fin.loop_next (t + 1) (by omega) (by omega) (fun s hs => hs.tl [0, 1] 2)
                      · try simp only [cnd] at hg117
                        refine WXL.miss (j := 11) (d := 117) rfl rfl rfl ?_
                        refine WXL.miss (j := 11) (d := 117) rfl rfl rfl ?_
                        refine WXL.miss (j := 11) (d := 117) rfl rfl rfl ?_
                        refine WXL.miss (j := 11) (d := 117) rfl rfl rfl ?_
                        refine WXL.miss (j := 11) (d := 117) rfl rfl rfl ?_
                        refine WXL.miss (j := 11) (d := 117) rfl rfl rfl ?_
                        refine WXL.miss (j := 11) (d := 117) rfl rfl rfl ?_
                        refine WXL.miss (j := 11) (d := 117) rfl rfl rfl ?_
                        refine WXL.miss (j := 11) (d := 117) rfl rfl rfl ?_
                        refine WXL.miss (j := 11) (d := 117) rfl rfl rfl ?_
                        refine WXL.miss (j := 11) (d := 117) rfl rfl rfl ?_
                        refine WXL.miss (j := 11) (d := 117) rfl rfl rfl ?_
                        refine WXL.pick_f (Met.some rfl rfl rfl) rfl rfl ?_
                        refine WXL.pick_f Met.none rfl rfl ?_
                        refine WXL.nil ?_
                        refine Fin.then_normal ?_
                        refine WX.cond rfl (fun hc7 => nomatch hc7) (fun hc7 => ?_)
                        refine WX.skip ?_
                        refine Fin.block_normal ?_
                        refine Fin.then_normal ?_
                        refine WX.region rfl ?_
                        refine WXL.move Met.none rfl ?_
                        refine WXL.bin Met.none rfl rfl bvA ?_
                        refine WXL.assign Met.none rfl ?_
                        refine WXL.nil ?_
                        exact Fin.loop_next (t + 1) (by omega) (by omega) (fun s hs => hs.tl [0, 1] 2)
                  · try simp only [cnd] at hc6
                    refine WX.exit ?_
                    refine Fin.then_exit ?_
                    refine Fin.loop_exit ?_
                    refine Fin.block_hit rfl ?_
                    refine Fin.then_normal ?_
                    refine WX.region rfl ?_
                    refine WXL.move Met.none rfl ?_
                    refine WXL.move Met.none rfl ?_
                    refine WXL.move Met.none rfl ?_
                    first | refine WXL.ix Met.none rfl rfl elem22 sz3 ?_ | refine WXL.ixS Met.none rfl rfl elem22 sz3 ?_
                    first | refine WXL.ld Met.none rfl agg3 ?_ | refine WXL.ldS Met.none rfl agg3 ?_
                    refine WXL.bin Met.none rfl rfl bvA ?_
                    refine WXL.assign Met.none rfl ?_
                    refine WXL.nil ?_
                    refine Fin.block_normal ?_
                    refine Fin.then_normal ?_
                    refine WX.region rfl ?_
                    refine WXL.move Met.none rfl ?_
                    refine WXL.bin Met.none rfl rfl bvA ?_
                    refine WXL.assign Met.none rfl ?_
                    refine WXL.nil ?_
                    refine Fin.loop_next (j + 1) (by omega) (by omega) ?_
                    rw [hst]
                    exact (fun s hs => hs.tl [0, 1] 2)
        · try simp only [cnd] at hc4
          refine WX.exit ?_
          refine Fin.then_exit ?_
          refine Fin.loop_exit ?_
          refine Fin.block_hit rfl ?_
          refine Fin.then_normal ?_
          refine WX.seq ?_
          have hjW : j = W.length := by omega
          subst hjW
          rw [List.take_length]
          have hsum : k = 0 → sumL W = r.1 := fun q => by
            subst q
            rw [hF0] at hu
            exact hu.sum hn hr
          refine WX.region rfl ?_
          refine WXL.move Met.none rfl ?_
          refine WXL.bin Met.none rfl rfl rfl ?_
          refine WXL.move Met.none rfl ?_
          refine WXL.split (d := 140) rfl (fun hg140 => ?_) (fun hg140 => ?_)
          · try simp only [cnd] at hg140
            refine WXL.move (Met.some rfl rfl rfl) rfl ?_
            refine WXL.move (Met.some rfl rfl rfl) rfl ?_
            refine WXL.bin (Met.some rfl rfl rfl) rfl rfl rfl ?_
            refine WXL.pick_t Met.none rfl rfl ?_
            refine WXL.nil ?_
            refine Fin.then_normal ?_
            refine WX.cond rfl (fun hc8 => ?_) (fun hc8 => ?_)
            · try simp only [cnd] at hc8
              exact absurd hc8 (by omega) --end
            · try simp only [cnd] at hc8
              refine WX.skip ?_
              refine Fin.block_normal ?_
              refine Fin.then_normal ?_
              refine WX.region rfl ?_
              refine WXL.move Met.none rfl ?_
              refine WXL.bin Met.none rfl rfl bvA ?_
              refine WXL.assign Met.none rfl ?_
              refine WXL.nil ?_
              first
              | exact Fin.loop_next (k + 1) (by omega) (by omega) (fun s hs => St.tl [0, 1] 2 (St.via (O' := (b33, ⟨1, false, Fl.map encR⟩) :: (b6, ⟨0, false, [I (netOf l).nodes, I (netOf l).source, I (netOf l).sink, .slice a3 (netOf l).edges.length c3]⟩) :: T) hs (fun h hh => by
                have h1 : Sat h ([(b33, ⟨1, false, Fl.map encR⟩), (b6, ⟨0, false, [I (netOf l).nodes, I (netOf l).source, I (netOf l).sink, .slice a3 (netOf l).edges.length c3]⟩)] ++ ((GP ++ (GW ++ Q)) ++ T)) := by simpa only [List.append_assoc, List.cons_append, List.nil_append] using hh
                exact h1.mid)))
          · try simp only [cnd] at hg140
            refine WXL.miss (j := 2) (d := 140) rfl rfl rfl ?_
            refine WXL.miss (j := 2) (d := 140) rfl rfl rfl ?_
            refine WXL.miss (j := 2) (d := 140) rfl rfl rfl ?_
            refine WXL.pick_f Met.none rfl rfl ?_
            refine WXL.nil ?_
            refine Fin.then_normal ?_
            refine WX.cond rfl (fun hc8 => nomatch hc8) (fun hc8 => ?_)
            refine WX.skip ?_
            refine Fin.block_normal ?_
            refine Fin.then_normal ?_
            refine WX.region rfl ?_
            refine WXL.move Met.none rfl ?_
            refine WXL.bin Met.none rfl rfl bvA ?_
            refine WXL.assign Met.none rfl ?_
            refine WXL.nil ?_
            first
            | exact Fin.loop_next (k + 1) (by omega) (by omega) (fun s hs => St.tl [0, 1] 2 (St.via (O' := (b33, ⟨1, false, Fl.map encR⟩) :: (b6, ⟨0, false, [I (netOf l).nodes, I (netOf l).source, I (netOf l).sink, .slice a3 (netOf l).edges.length c3]⟩) :: T) hs (fun h hh => by
              have h1 : Sat h ([(b33, ⟨1, false, Fl.map encR⟩), (b6, ⟨0, false, [I (netOf l).nodes, I (netOf l).source, I (netOf l).sink, .slice a3 (netOf l).edges.length c3]⟩)] ++ ((GP ++ (GW ++ Q)) ++ T)) := by simpa only [List.append_assoc, List.cons_append, List.nil_append] using hh
              exact h1.mid)))
  · try simp only [cnd] at hc0
    refine WX.exit ?_
    refine Fin.then_exit ?_
    refine Fin.loop_exit ?_
    refine Fin.block_hit rfl ?_
    refine Fin.then_normal ?_
    refine WX.seq ?_
    refine WX.region rfl ?_
    refine WXL.move Met.none rfl ?_
    refine WXL.bin Met.none rfl rfl rfl ?_
    refine WXL.move Met.none rfl ?_
    refine WXL.split (d := 147) rfl (fun hg147 => ?_) (fun hg147 => ?_)
    · try simp only [cnd] at hg147
      refine WXL.cl (O1 := _) (Met.some rfl rfl rfl) rfl (fnOk_of Try.func19 (by decide +kernel)) rfl (fun _ h => h) (lives_ok _) (fun v O' hp => ?_)
      obtain ⟨rfl, hO⟩ := hp
      subst O'
      refine WXL.pick_t Met.none rfl rfl ?_
      refine WXL.assign Met.none rfl ?_
      refine WXL.nil ?_
      refine Fin.then_normal ?_
      refine WX.ret ?_
      exact Fin.result (O' := []) (.inr rfl) rfl rfl (fun _ hs => Sat.nil hs.wf) rfl
    · try simp only [cnd] at hg147
      exact absurd trivial hg147 --end

end Go.Proofs.Ytjmklialkjncaaa.Eng
