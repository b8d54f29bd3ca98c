/- The reference's search computes the plain one. Own work; no condition. -/
import Derived.Test.YtjmklialkjncaaaFlM
set_option linter.unusedVariables false
set_option linter.unusedSimpArgs false
namespace Go.Proofs.Ytjmklialkjncaaa.Eng

theorem drop_range_lt {m i : Nat} (h : i < m) : (List.range m).drop i = i :: (List.range m).drop (i + 1) := by
  rw [List.drop_eq_getElem_cons (by simpa using h)]
  simp

theorem drop_range_ge {m i : Nat} (h : m ≤ i) : (List.range m).drop i = [] := List.drop_eq_nil_of_le (by simpa using h)

theorem replicate_succ_map (k : Nat) (a : Int) : (List.replicate (k + 1) a).map I = (List.replicate k a).map I ++ [I a] := by
  rw [List.replicate_succ', List.map_append]; rfl

section
variable {n : Net4} {f : List Int} {stop : Bool} {u : Int} {i : Nat} {l : List Nat} {S S' : BS}

theorem inner_skip (h : tryE n f u i S = none) : innerL n f stop u (i :: l) S = innerL n f stop u l S := by
  conv => lhs; unfold innerL
  rw [h]
theorem inner_visit (h : tryE n f u i S = some S') (hs : ¬ (stop = true ∧ (restR (nth n.edges i) (nth f i) u).1 = n.sink)) : innerL n f stop u (i :: l) S = innerL n f stop u l S' := by
  conv => lhs; unfold innerL
  rw [h]
  exact if_neg hs
theorem inner_stop (h : tryE n f u i S = some S') (hs : stop = true ∧ (restR (nth n.edges i) (nth f i) u).1 = n.sink) : innerL n f stop u (i :: l) S = (S', true) := by
  conv => lhs; unfold innerL
  rw [h]
  exact if_pos hs
theorem try_none1 (h : (restR (nth n.edges i) (nth f i) u).2 ≤ 0) : tryE n f u i S = none := if_pos (.inl h)
theorem try_none2 (h : nth S.by_ (restR (nth n.edges i) (nth f i) u).1.toNat ≠ -2) : tryE n f u i S = none := if_pos (.inr h)
theorem try_some (h : 0 < (restR (nth n.edges i) (nth f i) u).2) (h2 : nth S.by_ (restR (nth n.edges i) (nth f i) u).1.toNat = -2) :
    tryE n f u i S = some ⟨S.by_.set (restR (nth n.edges i) (nth f i) u).1.toNat i, S.queue ++ [(restR (nth n.edges i) (nth f i) u).1]⟩ := if_neg (by omega)

/-- What the rest of a search comes to. -/
def restL (n : Net4) (f : List Int) (stop : Bool) (k : Nat) (u : Int) (l : List Nat) (S : BS) : List Int :=
  if (innerL n f stop u l S).2 = true then (innerL n f stop u l S).1.by_ else outerL n f stop (n.nodes.toNat - (k + 1)) (innerL n f stop u l S).1 (k + 1)

theorem rest_nil {k : Nat} : restL n f stop k u [] S = outerL n f stop (n.nodes.toNat - (k + 1)) S (k + 1) := rfl
theorem rest_skip {k : Nat} (h : tryE n f u i S = none) : restL n f stop k u (i :: l) S = restL n f stop k u l S := by unfold restL; rw [inner_skip h]
theorem rest_visit {k : Nat} (h : tryE n f u i S = some S') (hs : ¬ (stop = true ∧ (restR (nth n.edges i) (nth f i) u).1 = n.sink)) : restL n f stop k u (i :: l) S = restL n f stop k u l S' := by unfold restL; rw [inner_visit h hs]
theorem rest_stop {k : Nat} (h : tryE n f u i S = some S') (hs : stop = true ∧ (restR (nth n.edges i) (nth f i) u).1 = n.sink) : restL n f stop k u (i :: l) S = S'.by_ := by unfold restL; rw [inner_stop h hs]; rfl
theorem outer_end {k fuel : Nat} (h : S.queue.length ≤ k) : outerL n f stop fuel S k = S.by_ := by
  cases fuel with
  | zero => rfl
  | succ fuel => unfold outerL; rw [if_neg (by omega)]
theorem outer_more {k : Nat} (h : k < S.queue.length) (hk : k < n.nodes.toNat) : outerL n f stop (n.nodes.toNat - k) S k = restL n f stop k (nth S.queue k) (List.range n.edges.length) S := by
  obtain ⟨m, hm⟩ : ∃ m, n.nodes.toNat - k = m + 1 := ⟨n.nodes.toNat - (k + 1), by omega⟩
  have e : n.nodes.toNat - (k + 1) = m := by omega
  rw [hm]
  unfold restL
  rw [e]
  conv => lhs; unfold outerL
  rw [if_pos h]
end

theorem Flow.in64 {n : Net4} {f : List Int} (hn : Sound n) (hf : Flow n f) {i : Nat} (hi : i < n.edges.length) : In64 ((nth n.edges i).cap - nth f i) ∧ In64 ((nth n.edges i).back + nth f i) := by
  have := hn.at hi
  have := hf.cap i hi
  unfold In64
  omega

theorem Good.push {n : Net4} (hn : Sound n) {f : List Int} {u : Int} {i : Nat} (hi : i < n.edges.length) {S : BS} (hg : Good n S) (h : 0 < (restR (nth n.edges i) (nth f i) u).2) (h2 : nth S.by_ (restR (nth n.edges i) (nth f i) u).1.toNat = -2) :
    Good n ⟨S.by_.set (restR (nth n.edges i) (nth f i) u).1.toNat i, S.queue ++ [(restR (nth n.edges i) (nth f i) u).1]⟩ := hg.tryE hn hi (try_some h h2)

theorem refSearch_ok (O : Objs) (n : Net4) (f : List Int) (stop : Bool) (a af : Option Addr) (c cf : Nat) (hn : Sound n) (hfl : Flow n f) (hl : Edges O n a c) (hf : Src O 1 (.slice af f.length cf) f.length (f.map I)) :
    Spec Try.prog false 40 #[netV n a c, .slice af f.length cf, .bool stop] O fun v O' => ∃ b c', v = Row b 0 n.nodes.toNat c' ∧ (searchR n f stop).length = n.nodes.toNat ∧ O' = (b, ⟨1, false, (searchR n f stop).map I⟩) :: O := by
  have hnn := hn.nodes
  have hns := hn.source
  have hnk := hn.sink
  have hlen := hn.len
  have hfe := hfl.len
  refine Spec.enter (args := [_, _, _]) (m := 86) Try.func40 rfl rfl (by decide +kernel) fun h0 => ?_
  refine WX.seq ?_
  refine WX.region rfl ?_
  refine WXL.box (c := [_, _, _, _]) Met.none rfl rfl rfl (fun b3 => ?_)
  refine WXL.assign Met.none rfl ?_
  refine WXL.nil ?_
  refine Fin.then_normal ?_
  refine WX.seq ?_
  refine WX.region rfl ?_
  refine WXL.assign Met.none rfl ?_
  refine WXL.nil ?_
  refine Fin.then_normal ?_
  refine WX.seq ?_
  refine WX.seq ?_
  refine WX.region rfl ?_
  refine WXL.assign Met.none rfl ?_
  refine WXL.nil ?_
  refine Fin.then_normal ?_
  refine WX.block ?_
  refine WX.loop (fun q : Nat × Option Addr × Nat × Objs => [(1, .slice af f.length cf), (2, .bool stop), (3, Ptr b3 0), (7, .slice q.2.1 q.1 q.2.2.1), (8, I (q.1 : Int))]) (fun q => (b3, ⟨0, false, [I n.nodes, I n.source, I n.sink, .slice a n.edges.length c]⟩) :: (q.2.2.2 ++ O)) (fun q => q.1 ≤ n.nodes.toNat ∧ Grow 1 q.2.1 q.1 q.2.2.1 ((List.replicate q.1 (-2)).map I) q.2.2.2) (fun q => n.nodes.toNat - q.1) (0, none, 0, []) ⟨by omega, .nil⟩ (fun s hs => hs.tl [0] 1) (fun q hq => ?_)
  obtain ⟨k, ga, gc, G⟩ := q
  obtain ⟨hk1, hG⟩ := hq
  simp only at hk1 hG
  dsimp only
  refine WX.seq ?_
  refine WX.seq ?_
  refine WX.region rfl ?_
  refine WXL.move Met.none rfl ?_
  refine WXL.fieldAddr (off' := 0) Met.none rfl Try.underlying25 rfl sz3 rfl ?_
  first | refine WXL.ld Met.none rfl agg3 ?_ | refine WXL.ldS Met.none rfl agg3 ?_
  refine WXL.bin Met.none rfl rfl rfl ?_
  refine WXL.nil ?_
  refine Fin.then_normal ?_
  refine WX.cond rfl (fun hc0 => ?_) (fun hc0 => ?_)
  · try simp only [cnd] at hc0
    refine WX.skip ?_
    refine Fin.then_normal ?_
    refine WX.seq ?_
    refine WX.block ?_
    refine WX.region rfl ?_
    refine WXL.move Met.none rfl ?_
    refine WXL.buildSlice (c := [_]) Met.none rfl elem22 sz3 zero3 (by decide) (by decide) rfl rfl rfl rfl (fun b21 => ?_)
    refine WXL.apG [_, _] Met.none rfl rfl isrow22 elem22 sz3 by3 zero3 (Src.lit (cs := [_])) (fun a22 c22 G22 hG22 => ?_)
    refine WXL.assign Met.none rfl ?_
    refine WXL.nil ?_
    refine Fin.block_normal ?_
    refine Fin.then_normal ?_
    refine WX.region rfl ?_
    refine WXL.move Met.none rfl ?_
    refine WXL.bin Met.none rfl rfl bvA ?_
    refine WXL.assign Met.none rfl ?_
    refine WXL.nil ?_
    refine Fin.loop_next (k + 1, a22, c22, G22) ⟨by simp only; omega, ?_⟩ (by simp only; omega) (fun s hs => hs.tl [1] 2)
    rw [replicate_succ_map]
    exact hG22
  · try simp only [cnd] at hc0
    refine WX.exit ?_
    refine Fin.then_exit ?_
    refine Fin.loop_exit ?_
    refine Fin.block_hit rfl ?_
    refine Fin.then_normal ?_
    refine WX.seq ?_
    have hk : k = n.nodes.toNat := by omega
    subst hk
    obtain ⟨b7, rfl, rfl, hbl⟩ := hG.row_of (by omega)
    refine WX.region rfl ?_
    refine WXL.move Met.none rfl ?_
    refine WXL.fieldAddr (off' := 1) Met.none rfl Try.underlying25 rfl sz3 rfl ?_
    first | refine WXL.ld Met.none rfl agg3 ?_ | refine WXL.ldS Met.none rfl agg3 ?_
    first | refine WXL.ix Met.none rfl rfl elem22 sz3 ?_ | refine WXL.ixS Met.none rfl rfl elem22 sz3 ?_
    refine WXL.st (vs := [_]) Met.none rfl rfl rfl sz3 ?_ (hc := (splice_map I _ n.source.toNat (-1) (by rw [List.length_replicate]; omega)))
    refine WXL.nil ?_
    refine Fin.then_normal ?_
    refine WX.seq ?_
    refine WX.region rfl ?_
    refine WXL.fieldAddr (off' := 1) Met.none rfl Try.underlying25 rfl sz3 rfl ?_
    first | refine WXL.ld Met.none rfl agg3 ?_ | refine WXL.ldS Met.none rfl agg3 ?_
    refine WXL.buildSlice (c := [_]) Met.none rfl elem22 sz3 zero3 (by decide) (by decide) rfl rfl rfl rfl (fun b29 => ?_)
    refine WXL.assign Met.none rfl ?_
    refine WXL.nil ?_
    refine Fin.then_normal ?_
    refine WX.seq ?_
    refine WX.seq ?_
    refine WX.region rfl ?_
    refine WXL.assign Met.none rfl ?_
    refine WXL.nil ?_
    refine Fin.then_normal ?_
    refine WX.block ?_
    refine WX.loop (fun q : BS × Nat × Nat × Nat => [(1, .slice af f.length cf), (2, .bool stop), (3, Ptr b3 0), (7, Row b7 0 n.nodes.toNat gc), (9, Row q.2.2.1 0 q.1.queue.length q.2.2.2), (10, I (q.2.1 : Int))]) (fun q => (q.2.2.1, ⟨1, false, q.1.queue.map I⟩) :: (b3, ⟨0, false, [I n.nodes, I n.source, I n.sink, .slice a n.edges.length c]⟩) :: (b7, ⟨1, false, q.1.by_.map I⟩) :: O) (fun q => q.2.1 ≤ q.1.queue.length ∧ Good n q.1 ∧ outerL n f stop (n.nodes.toNat - q.2.1) q.1 q.2.1 = searchR n f stop) (fun q => n.nodes.toNat - q.2.1) (startBS n, 0, b29, _) ⟨Nat.zero_le _, Good.start hn, rfl⟩ (fun s hs => hs.tl [0, 1, 2] 3) (fun q hq => ?_)
    obtain ⟨S, k, bq, cq⟩ := q
    obtain ⟨hk1, hgd, hout⟩ := hq
    simp only at hk1 hgd hout
    dsimp only
    have hroom := hgd.room
    have hbl := hgd.len
    refine WX.seq ?_
    refine WX.seq ?_
    refine WX.region rfl ?_
    refine WXL.move Met.none rfl ?_
    refine WXL.move Met.none rfl ?_
    refine WXL.len Met.none rfl Try.underlying22 ?_
    refine WXL.bin Met.none rfl rfl rfl ?_
    refine WXL.nil ?_
    refine Fin.then_normal ?_
    refine WX.cond rfl (fun hc1 => ?_) (fun hc1 => ?_)
    · try simp only [cnd] at hc1
      refine WX.skip ?_
      refine Fin.then_normal ?_
      refine WX.seq ?_
      refine WX.block ?_
      refine WX.seq ?_
      refine WX.region rfl ?_
      refine WXL.assign Met.none rfl ?_
      refine WXL.nil ?_
      refine Fin.then_normal ?_
      refine WX.block ?_
      have hkn : k < n.nodes.toNat := by omega
      obtain ⟨u, hu⟩ : ∃ u, nth S.queue k = u := ⟨_, rfl⟩
      rw [outer_more (by omega) hkn, hu] at hout
      refine WX.loop (fun q : BS × Nat × Nat × Nat => [(1, .slice af f.length cf), (2, .bool stop), (3, Ptr b3 0), (7, Row b7 0 n.nodes.toNat gc), (9, Row q.2.2.1 0 q.1.queue.length q.2.2.2), (10, I (k : Int)), (11, I (q.2.1 : Int))]) (fun q => (q.2.2.1, ⟨1, false, q.1.queue.map I⟩) :: (b3, ⟨0, false, [I n.nodes, I n.source, I n.sink, .slice a n.edges.length c]⟩) :: (b7, ⟨1, false, q.1.by_.map I⟩) :: O) (fun q => q.2.1 ≤ n.edges.length ∧ Good n q.1 ∧ k < q.1.queue.length ∧ nth q.1.queue k = u ∧ restL n f stop k u ((List.range n.edges.length).drop q.2.1) q.1 = searchR n f stop) (fun q => n.edges.length - q.2.1) (S, 0, bq, cq) ⟨Nat.zero_le _, hgd, by simp only; omega, hu, hout⟩ (fun s hs => hs.tl [0, 1, 2] 3) (fun q hq => ?_)
      obtain ⟨S2, i, bq2, cq2⟩ := q
      obtain ⟨hi1, hgd2, hkq, hku, hin⟩ := hq
      simp only at hi1 hgd2 hkq hku hin
      dsimp only
      have hroom2 := hgd2.room
      have hbl2 := hgd2.len
      refine WX.seq ?_
      refine WX.seq ?_
      refine WX.region rfl ?_
      refine WXL.move Met.none rfl ?_
      refine WXL.fieldAddr (off' := 3) Met.none rfl Try.underlying25 rfl sz23 rfl ?_
      first | refine WXL.ld Met.none rfl agg23 ?_ | refine WXL.ldS Met.none rfl agg23 ?_
      refine WXL.len Met.none rfl Try.underlying23 ?_
      refine WXL.bin Met.none rfl rfl rfl ?_
      refine WXL.nil ?_
      refine Fin.then_normal ?_
      refine WX.cond rfl (fun hc2 => ?_) (fun hc2 => ?_)
      · try simp only [cnd] at hc2
        refine WX.skip ?_
        refine Fin.then_normal ?_
        refine WX.seq ?_
        refine WX.block ?_
        refine WX.seq ?_
        have hi : i < n.edges.length := by omega
        have hin64 := hfl.in64 hn hi
        have hto := restR_inside hn hi (nth f i) u
        refine WX.draw rfl ?_
        refine WXL.fieldAddr (off' := 3) Met.none rfl Try.underlying25 rfl sz23 rfl ?_
        first | refine WXL.ld Met.none rfl agg23 ?_ | refine WXL.ldS Met.none rfl agg23 ?_
        refine WXL.move Met.none rfl ?_
        first | refine WXL.ix Met.none rfl rfl elem23 sz63 ?_ | refine WXL.ixS Met.none rfl rfl elem23 sz63 ?_
        first | refine WXL.ldN Met.none rfl agg63 sz63 ?_ | refine WXL.ldNS Met.none rfl agg63 sz63 ?_
        refine WXL.move Met.none rfl ?_
        refine WXL.move Met.none rfl ?_
        first | refine WXL.ix Met.none rfl rfl elem22 sz3 ?_ | refine WXL.ixS Met.none rfl rfl elem22 sz3 ?_
        first | refine WXL.ld Met.none rfl agg3 ?_ | refine WXL.ldS Met.none rfl agg3 ?_
        refine WXL.move Met.none rfl ?_
        refine WXL.move Met.none rfl ?_
        first | refine WXL.ix Met.none rfl rfl elem22 sz3 ?_ | refine WXL.ixS Met.none rfl rfl elem22 sz3 ?_
        first | refine WXL.ld Met.none rfl agg3 ?_ | refine WXL.ldS Met.none rfl agg3 ?_
        refine WXL.cl (O1 := _) Met.none rfl (fnOk_of Try.func42 (by decide +kernel)) rfl (fun _ h => h) (refRest_ok _ (nth n.edges i) (nth f i) (nth S2.queue k) hin64.1 hin64.2) (fun v O' hp => ?_)
        obtain ⟨rfl, hO⟩ := hp
        subst O'
        rw [hku]
        refine WXL.move Met.none rfl ?_
        refine WXL.extract Met.none rfl rfl ?_
        refine WXL.extract Met.none rfl rfl ?_
        refine WXL.assign Met.none rfl ?_
        refine WXL.assign Met.none rfl ?_
        refine WXL.nil ?_
        refine Fin.then_normal ?_
        refine WX.seq ?_
        refine WX.seq ?_
        refine WX.region rfl ?_
        refine WXL.move Met.none rfl ?_
        refine WXL.bin Met.none rfl rfl rfl ?_
        refine WXL.move Met.none rfl ?_
        refine WXL.split (d := 62) rfl (fun hg62 => ?_) (fun hg62 => ?_)
        · try simp only [cnd] at hg62
          refine WXL.miss (j := 2) (d := 62) rfl rfl rfl ?_
          refine WXL.miss (j := 2) (d := 62) rfl rfl rfl ?_
          refine WXL.miss (j := 2) (d := 62) rfl rfl rfl ?_
          refine WXL.miss (j := 2) (d := 62) rfl rfl rfl ?_
          refine WXL.miss (j := 2) (d := 62) rfl rfl rfl ?_
          refine WXL.pick_t Met.none rfl rfl ?_
          refine WXL.nil ?_
          refine Fin.then_normal ?_
          refine WX.cond rfl (fun hc3 => ?_) (fun hc3 => nomatch hc3)
          refine WX.exit ?_
          refine Fin.then_exit ?_
          refine Fin.block_hit rfl ?_
          refine Fin.then_normal ?_
          refine WX.region rfl ?_
          refine WXL.move Met.none rfl ?_
          refine WXL.bin Met.none rfl rfl bvA ?_
          refine WXL.assign Met.none rfl ?_
          refine WXL.nil ?_
          rw [drop_range_lt hi] at hin
          first
          | (rw [rest_skip (try_none1 hg62)] at hin; exact Fin.loop_next (S2, i + 1, bq2, cq2) ⟨by simp only; omega, hgd2, hkq, hku, hin⟩ (by simp only; omega) (fun s hs => hs.tl [0, 1, 2] 3))
          | (rw [rest_skip (try_none2 hc3)] at hin; exact Fin.loop_next (S2, i + 1, bq2, cq2) ⟨by simp only; omega, hgd2, hkq, hku, hin⟩ (by simp only; omega) (fun s hs => hs.tl [0, 1, 2] 3))
          | (rw [rest_visit (try_some hg62 hc3) (by first | exact fun q => hc4 q.2 | exact fun q => (by rw [hg78] at q; cases q.1))] at hin
             exact Fin.loop_next (⟨S2.by_.set (restR (nth n.edges i) (nth f i) u).1.toNat i, S2.queue ++ [(restR (nth n.edges i) (nth f i) u).1]⟩, i + 1, b76, _) ⟨by simp only; omega, hgd2.push hn hi hg62 hc3, by simp only [List.length_append]; omega, by simp only; rw [nth_append_left hkq]; exact hku, hin⟩ (by simp only; omega) (fun s hs => hs.told ⟨eq_, eq_, eq_, eq_, (by first | exact rfl | (rw [List.length_append]; exact rfl)), eq_, eq_, trivial⟩ [1, 2, 3] 4 (by decide) (by decide) rfl))
        · try simp only [cnd] at hg62
          refine WXL.move (Met.some rfl rfl rfl) rfl ?_
          refine WXL.move (Met.some rfl rfl rfl) rfl ?_
          first | refine WXL.ix (Met.some rfl rfl rfl) rfl rfl elem22 sz3 ?_ | refine WXL.ixS (Met.some rfl rfl rfl) rfl rfl elem22 sz3 ?_
          first | refine WXL.ld (Met.some rfl rfl rfl) rfl agg3 ?_ | refine WXL.ldS (Met.some rfl rfl rfl) rfl agg3 ?_
          refine WXL.bin (Met.some rfl rfl rfl) rfl rfl rfl ?_
          refine WXL.pick_f Met.none rfl rfl ?_
          refine WXL.nil ?_
          refine Fin.then_normal ?_
          refine WX.cond rfl (fun hc3 => ?_) (fun hc3 => ?_)
          · try simp only [cnd] at hc3
            refine WX.exit ?_
            refine Fin.then_exit ?_
            refine Fin.block_hit rfl ?_
            refine Fin.then_normal ?_
            refine WX.region rfl ?_
            refine WXL.move Met.none rfl ?_
            refine WXL.bin Met.none rfl rfl bvA ?_
            refine WXL.assign Met.none rfl ?_
            refine WXL.nil ?_
            rw [drop_range_lt hi] at hin
            first
            | (rw [rest_skip (try_none1 hg62)] at hin; exact Fin.loop_next (S2, i + 1, bq2, cq2) ⟨by simp only; omega, hgd2, hkq, hku, hin⟩ (by simp only; omega) (fun s hs => hs.tl [0, 1, 2] 3))
            | (rw [rest_skip (try_none2 hc3)] at hin; exact Fin.loop_next (S2, i + 1, bq2, cq2) ⟨by simp only; omega, hgd2, hkq, hku, hin⟩ (by simp only; omega) (fun s hs => hs.tl [0, 1, 2] 3))
            | (rw [rest_visit (try_some hg62 hc3) (by first | exact fun q => hc4 q.2 | exact fun q => (by rw [hg78] at q; cases q.1))] at hin
               exact Fin.loop_next (⟨S2.by_.set (restR (nth n.edges i) (nth f i) u).1.toNat i, S2.queue ++ [(restR (nth n.edges i) (nth f i) u).1]⟩, i + 1, b76, _) ⟨by simp only; omega, hgd2.push hn hi hg62 hc3, by simp only [List.length_append]; omega, by simp only; rw [nth_append_left hkq]; exact hku, hin⟩ (by simp only; omega) (fun s hs => hs.told ⟨eq_, eq_, eq_, eq_, (by first | exact rfl | (rw [List.length_append]; exact rfl)), eq_, eq_, trivial⟩ [1, 2, 3] 4 (by decide) (by decide) rfl))
          · try simp only [cnd] at hc3
            refine WX.skip ?_
            refine Fin.then_normal ?_
            refine WX.seq ?_
            refine WX.region rfl ?_
            refine WXL.move Met.none rfl ?_
            refine WXL.move Met.none rfl ?_
            refine WXL.move Met.none rfl ?_
            first | refine WXL.ix Met.none rfl rfl elem22 sz3 ?_ | refine WXL.ixS Met.none rfl rfl elem22 sz3 ?_
            refine WXL.st (vs := [_]) Met.none rfl rfl rfl sz3 ?_ (hc := (splice_map I S2.by_ (restR (nth n.edges i) (nth f i) u).1.toNat i (by omega)))
            refine WXL.nil ?_
            refine Fin.then_normal ?_
            refine WX.seq ?_
            refine WX.region rfl ?_
            refine WXL.move Met.none rfl ?_
            refine WXL.move Met.none rfl ?_
            refine WXL.buildSlice (c := [_]) Met.none rfl elem22 sz3 zero3 (by decide) (by decide) rfl rfl rfl rfl (fun b75 => ?_)
            first | refine WXL.append 0 Met.none rfl rfl rfl isrow22 rfl (Src.lit (cs := [_])) elem22 sz3 by3 zero3 rfl (by simp) (by omega) (by decide) (by decide) (show _ = (S2.queue ++ [(restR (nth n.edges i) (nth f i) u).1]).map I from by simp) (by repeat (first | exact Clear.nil | refine Clear.cons 0 rfl rfl ?_ | refine Clear.cons 1 rfl rfl ?_ | refine Clear.cons 2 rfl rfl ?_ | refine Clear.cons 3 rfl rfl ?_ | refine Clear.cons 4 rfl rfl ?_)) (fun b => (by simp only [List.cons_append, List.nil_append, List.set_cons_zero, List.set_cons_succ]; exact rfl)) (fun b76 => ?_) | refine WXL.append 1 Met.none rfl rfl rfl isrow22 rfl (Src.lit (cs := [_])) elem22 sz3 by3 zero3 rfl (by simp) (by omega) (by decide) (by decide) (show _ = (S2.queue ++ [(restR (nth n.edges i) (nth f i) u).1]).map I from by simp) (by repeat (first | exact Clear.nil | refine Clear.cons 0 rfl rfl ?_ | refine Clear.cons 1 rfl rfl ?_ | refine Clear.cons 2 rfl rfl ?_ | refine Clear.cons 3 rfl rfl ?_ | refine Clear.cons 4 rfl rfl ?_)) (fun b => (by simp only [List.cons_append, List.nil_append, List.set_cons_zero, List.set_cons_succ]; exact rfl)) (fun b76 => ?_) | refine WXL.append 2 Met.none rfl rfl rfl isrow22 rfl (Src.lit (cs := [_])) elem22 sz3 by3 zero3 rfl (by simp) (by omega) (by decide) (by decide) (show _ = (S2.queue ++ [(restR (nth n.edges i) (nth f i) u).1]).map I from by simp) (by repeat (first | exact Clear.nil | refine Clear.cons 0 rfl rfl ?_ | refine Clear.cons 1 rfl rfl ?_ | refine Clear.cons 2 rfl rfl ?_ | refine Clear.cons 3 rfl rfl ?_ | refine Clear.cons 4 rfl rfl ?_)) (fun b => (by simp only [List.cons_append, List.nil_append, List.set_cons_zero, List.set_cons_succ]; exact rfl)) (fun b76 => ?_) | refine WXL.append 3 Met.none rfl rfl rfl isrow22 rfl (Src.lit (cs := [_])) elem22 sz3 by3 zero3 rfl (by simp) (by omega) (by decide) (by decide) (show _ = (S2.queue ++ [(restR (nth n.edges i) (nth f i) u).1]).map I from by simp) (by repeat (first | exact Clear.nil | refine Clear.cons 0 rfl rfl ?_ | refine Clear.cons 1 rfl rfl ?_ | refine Clear.cons 2 rfl rfl ?_ | refine Clear.cons 3 rfl rfl ?_ | refine Clear.cons 4 rfl rfl ?_)) (fun b => (by simp only [List.cons_append, List.nil_append, List.set_cons_zero, List.set_cons_succ]; exact rfl)) (fun b76 => ?_) | refine WXL.append 4 Met.none rfl rfl rfl isrow22 rfl (Src.lit (cs := [_])) elem22 sz3 by3 zero3 rfl (by simp) (by omega) (by decide) (by decide) (show _ = (S2.queue ++ [(restR (nth n.edges i) (nth f i) u).1]).map I from by simp) (by repeat (first | exact Clear.nil | refine Clear.cons 0 rfl rfl ?_ | refine Clear.cons 1 rfl rfl ?_ | refine Clear.cons 2 rfl rfl ?_ | refine Clear.cons 3 rfl rfl ?_ | refine Clear.cons 4 rfl rfl ?_)) (fun b => (by simp only [List.cons_append, List.nil_append, List.set_cons_zero, List.set_cons_succ]; exact rfl)) (fun b76 => ?_) | refine WXL.append 5 Met.none rfl rfl rfl isrow22 rfl (Src.lit (cs := [_])) elem22 sz3 by3 zero3 rfl (by simp) (by omega) (by decide) (by decide) (show _ = (S2.queue ++ [(restR (nth n.edges i) (nth f i) u).1]).map I from by simp) (by repeat (first | exact Clear.nil | refine Clear.cons 0 rfl rfl ?_ | refine Clear.cons 1 rfl rfl ?_ | refine Clear.cons 2 rfl rfl ?_ | refine Clear.cons 3 rfl rfl ?_ | refine Clear.cons 4 rfl rfl ?_)) (fun b => (by simp only [List.cons_append, List.nil_append, List.set_cons_zero, List.set_cons_succ]; exact rfl)) (fun b76 => ?_) | refine WXL.append 6 Met.none rfl rfl rfl isrow22 rfl (Src.lit (cs := [_])) elem22 sz3 by3 zero3 rfl (by simp) (by omega) (by decide) (by decide) (show _ = (S2.queue ++ [(restR (nth n.edges i) (nth f i) u).1]).map I from by simp) (by repeat (first | exact Clear.nil | refine Clear.cons 0 rfl rfl ?_ | refine Clear.cons 1 rfl rfl ?_ | refine Clear.cons 2 rfl rfl ?_ | refine Clear.cons 3 rfl rfl ?_ | refine Clear.cons 4 rfl rfl ?_)) (fun b => (by simp only [List.cons_append, List.nil_append, List.set_cons_zero, List.set_cons_succ]; exact rfl)) (fun b76 => ?_) | refine WXL.append 7 Met.none rfl rfl rfl isrow22 rfl (Src.lit (cs := [_])) elem22 sz3 by3 zero3 rfl (by simp) (by omega) (by decide) (by decide) (show _ = (S2.queue ++ [(restR (nth n.edges i) (nth f i) u).1]).map I from by simp) (by repeat (first | exact Clear.nil | refine Clear.cons 0 rfl rfl ?_ | refine Clear.cons 1 rfl rfl ?_ | refine Clear.cons 2 rfl rfl ?_ | refine Clear.cons 3 rfl rfl ?_ | refine Clear.cons 4 rfl rfl ?_)) (fun b => (by simp only [List.cons_append, List.nil_append, List.set_cons_zero, List.set_cons_succ]; exact rfl)) (fun b76 => ?_)
            refine WXL.assign Met.none rfl ?_
            refine WXL.nil ?_
            refine Fin.then_normal ?_
            refine WX.seq ?_
            refine WX.region rfl ?_
            refine WXL.move Met.none rfl ?_
            refine WXL.move Met.none rfl ?_
            refine WXL.split (d := 78) rfl (fun hg78 => ?_) (fun hg78 => ?_)
            · try simp only [cnd] at hg78
              refine WXL.move (Met.some rfl rfl rfl) rfl ?_
              refine WXL.fieldAddr (off' := 2) (Met.some rfl rfl rfl) rfl Try.underlying25 rfl sz3 rfl ?_
              first | refine WXL.ld (Met.some rfl rfl rfl) rfl agg3 ?_ | refine WXL.ldS (Met.some rfl rfl rfl) rfl agg3 ?_
              refine WXL.bin (Met.some rfl rfl rfl) rfl rfl rfl ?_
              refine WXL.pick_t Met.none rfl rfl ?_
              refine WXL.nil ?_
              refine Fin.then_normal ?_
              refine WX.cond rfl (fun hc4 => ?_) (fun hc4 => ?_)
              · try simp only [cnd] at hc4
                refine WX.seq ?_
                refine WX.region rfl ?_
                refine WXL.move Met.none rfl ?_
                refine WXL.assign Met.none rfl ?_
                refine WXL.nil ?_
                refine Fin.then_normal ?_
                refine WX.ret ?_
                refine Fin.block_ret ?_
                refine Fin.then_ret ?_
                refine Fin.loop_ret ?_
                refine Fin.block_ret ?_
                refine Fin.block_ret ?_
                refine Fin.then_ret ?_
                refine Fin.loop_ret ?_
                refine Fin.block_ret ?_
                refine Fin.then_ret ?_
                refine Fin.result (O' := (b7, ⟨1, false, (searchR n f stop).map I⟩) :: O) (.inr rfl) rfl rfl (fun h hs => ?_) ⟨b7, gc, rfl, ?_, rfl⟩
                · first
                  | (rw [outer_end (by omega)] at hout; rw [← hout]; exact hs.told [2] 3 (by decide) (by decide) rfl)
                  | (rw [drop_range_lt hi, rest_stop (try_some hg62 hc3) ⟨hg78, hc4⟩] at hin; rw [← hin]; exact hs.told [3] 4 (by decide) (by decide) rfl)
                · first
                  | (rw [outer_end (by omega)] at hout; rw [← hout]; omega)
                  | (rw [drop_range_lt hi, rest_stop (try_some hg62 hc3) ⟨hg78, hc4⟩] at hin; rw [← hin]; have := hgd2.len; simp only [List.length_set]; omega)
              · try simp only [cnd] at hc4
                refine WX.skip ?_
                refine Fin.block_normal ?_
                refine Fin.then_normal ?_
                refine WX.region rfl ?_
                refine WXL.move Met.none rfl ?_
                refine WXL.bin Met.none rfl rfl bvA ?_
                refine WXL.assign Met.none rfl ?_
                refine WXL.nil ?_
                rw [drop_range_lt hi] at hin
                first
                | (rw [rest_skip (try_none1 hg62)] at hin; exact Fin.loop_next (S2, i + 1, bq2, cq2) ⟨by simp only; omega, hgd2, hkq, hku, hin⟩ (by simp only; omega) (fun s hs => hs.tl [0, 1, 2] 3))
                | (rw [rest_skip (try_none2 hc3)] at hin; exact Fin.loop_next (S2, i + 1, bq2, cq2) ⟨by simp only; omega, hgd2, hkq, hku, hin⟩ (by simp only; omega) (fun s hs => hs.tl [0, 1, 2] 3))
                | (rw [rest_visit (try_some hg62 hc3) (by first | exact fun q => hc4 q.2 | exact fun q => (by rw [hg78] at q; cases q.1))] at hin
                   exact Fin.loop_next (⟨S2.by_.set (restR (nth n.edges i) (nth f i) u).1.toNat i, S2.queue ++ [(restR (nth n.edges i) (nth f i) u).1]⟩, i + 1, b76, _) ⟨by simp only; omega, hgd2.push hn hi hg62 hc3, by simp only [List.length_append]; omega, by simp only; rw [nth_append_left hkq]; exact hku, hin⟩ (by simp only; omega) (fun s hs => hs.told ⟨eq_, eq_, eq_, eq_, (by first | exact rfl | (rw [List.length_append]; exact rfl)), eq_, eq_, trivial⟩ [1, 2, 3] 4 (by decide) (by decide) rfl))
            · try simp only [cnd] at hg78
              refine WXL.miss (j := 1) (d := 78) rfl rfl rfl ?_
              refine WXL.miss (j := 1) (d := 78) rfl rfl rfl ?_
              refine WXL.miss (j := 1) (d := 78) rfl rfl rfl ?_
              refine WXL.miss (j := 1) (d := 78) rfl rfl rfl ?_
              refine WXL.pick_f Met.none rfl rfl ?_
              refine WXL.nil ?_
              refine Fin.then_normal ?_
              refine WX.cond rfl (fun hc4 => nomatch hc4) (fun hc4 => ?_)
              refine WX.skip ?_
              refine Fin.block_normal ?_
              refine Fin.then_normal ?_
              refine WX.region rfl ?_
              refine WXL.move Met.none rfl ?_
              refine WXL.bin Met.none rfl rfl bvA ?_
              refine WXL.assign Met.none rfl ?_
              refine WXL.nil ?_
              rw [drop_range_lt hi] at hin
              first
              | (rw [rest_skip (try_none1 hg62)] at hin; exact Fin.loop_next (S2, i + 1, bq2, cq2) ⟨by simp only; omega, hgd2, hkq, hku, hin⟩ (by simp only; omega) (fun s hs => hs.tl [0, 1, 2] 3))
              | (rw [rest_skip (try_none2 hc3)] at hin; exact Fin.loop_next (S2, i + 1, bq2, cq2) ⟨by simp only; omega, hgd2, hkq, hku, hin⟩ (by simp only; omega) (fun s hs => hs.tl [0, 1, 2] 3))
              | (rw [rest_visit (try_some hg62 hc3) (by first | exact fun q => hc4 q.2 | exact fun q => (by rw [hg78] at q; cases q.1))] at hin
                 exact Fin.loop_next (⟨S2.by_.set (restR (nth n.edges i) (nth f i) u).1.toNat i, S2.queue ++ [(restR (nth n.edges i) (nth f i) u).1]⟩, i + 1, b76, _) ⟨by simp only; omega, hgd2.push hn hi hg62 hc3, by simp only [List.length_append]; omega, by simp only; rw [nth_append_left hkq]; exact hku, hin⟩ (by simp only; omega) (fun s hs => hs.told ⟨eq_, eq_, eq_, eq_, (by first | exact rfl | (rw [List.length_append]; exact rfl)), eq_, eq_, trivial⟩ [1, 2, 3] 4 (by decide) (by decide) rfl))
      · try simp only [cnd] at hc2
        refine WX.exit ?_
        refine Fin.then_exit ?_
        refine Fin.loop_exit ?_
        refine Fin.block_hit rfl ?_
        refine Fin.block_normal ?_
        refine Fin.then_normal ?_
        refine WX.region rfl ?_
        refine WXL.move Met.none rfl ?_
        refine WXL.bin Met.none rfl rfl bvA ?_
        refine WXL.assign Met.none rfl ?_
        refine WXL.nil ?_
        have hi2 : i = n.edges.length := by omega
        rw [drop_range_ge (by omega), rest_nil] at hin
        exact Fin.loop_next (S2, k + 1, bq2, cq2) ⟨by simp only; omega, hgd2, hin⟩ (by simp only; omega) (fun s hs => hs.tl [0, 1, 2] 3)
    · try simp only [cnd] at hc1
      refine WX.exit ?_
      refine Fin.then_exit ?_
      refine Fin.loop_exit ?_
      refine Fin.block_hit rfl ?_
      refine Fin.then_normal ?_
      refine WX.seq ?_
      refine WX.region rfl ?_
      refine WXL.move Met.none rfl ?_
      refine WXL.assign Met.none rfl ?_
      refine WXL.nil ?_
      refine Fin.then_normal ?_
      refine WX.ret ?_
      refine Fin.result (O' := (b7, ⟨1, false, (searchR n f stop).map I⟩) :: O) (.inr rfl) rfl rfl (fun h hs => ?_) ⟨b7, gc, rfl, ?_, rfl⟩
      · first
        | (rw [outer_end (by omega)] at hout; rw [← hout]; exact hs.told [2] 3 (by decide) (by decide) rfl)
        | (rw [drop_range_lt hi, rest_stop (try_some hg62 hc3) ⟨hg78, hc4⟩] at hin; rw [← hin]; exact hs.told [3] 4 (by decide) (by decide) rfl)
      · first
        | (rw [outer_end (by omega)] at hout; rw [← hout]; omega)
        | (rw [drop_range_lt hi, rest_stop (try_some hg62 hc3) ⟨hg78, hc4⟩] at hin; rw [← hin]; have := hgd2.len; simp only [List.length_set]; omega)

end Go.Proofs.Ytjmklialkjncaaa.Eng
