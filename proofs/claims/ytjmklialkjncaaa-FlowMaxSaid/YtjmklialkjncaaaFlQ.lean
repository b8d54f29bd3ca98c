/- The program's search, walked. Own work; no condition. -/
import Derived.Test.YtjmklialkjncaaaFlP
set_option linter.unusedVariables false
set_option linter.unusedSimpArgs false
namespace Go.Proofs.Ytjmklialkjncaaa.Eng

/-- What is visited, in the program's lists. -/
def seenL (S : BS) : List Bool := genOf seenF S.by_
def byL (n : Net4) (S : BS) : List Arc := genOf (byF n) S.by_
def fromL (n : Net4) (S : BS) : List Int := genOf (fromF n) S.by_

theorem seen_nth {S : BS} {v : Nat} (h : v < S.by_.length) : nth (seenL S) v = decide (nth S.by_ v ≠ -2) := nth_genOf seenF h

theorem visit_gen {n : Net4} (hn : Sound n) {f : List Int} {u i : Nat} {S : BS} (hg : Good n S) (h : i ∈ incL n u) :
    seenL ⟨S.by_.set (arcAt n u i).to.toNat i, S.queue ++ [(arcAt n u i).to]⟩ = (seenL S).set (arcAt n u i).to.toNat true ∧
    byL n ⟨S.by_.set (arcAt n u i).to.toNat i, S.queue ++ [(arcAt n u i).to]⟩ = (byL n S).set (arcAt n u i).to.toNat (arcAt n u i) ∧
    fromL n ⟨S.by_.set (arcAt n u i).to.toNat i, S.queue ++ [(arcAt n u i).to]⟩ = (fromL n S).set (arcAt n u i).to.toNat u := by
  obtain ⟨_, he, ho, hf, h0, h1⟩ := arc_rest hn f h
  have hl := hg.len
  have hlt : (arcAt n u i).to.toNat < S.by_.length := by omega
  have hto : (((arcAt n u i).to.toNat : Nat) : Int) = (arcAt n u i).to := Int.toNat_of_nonneg h0
  unfold seenL byL fromL
  refine ⟨?_, ?_, ?_⟩
  · rw [genOf_set seenF hlt]
    congr 1
  · rw [genOf_set (byF n) hlt]
    congr 1
    unfold byF
    rw [if_pos (by omega), Int.toNat_natCast, hto, ← hf]
    generalize arcAt n u i = r at he ⊢
    cases r
    simp only at he ⊢
    rw [he]
  · rw [genOf_set (fromF n) hlt]
    congr 1
    unfold fromF
    rw [if_pos (by omega), Int.toNat_natCast, hto, ho]

theorem search_ok (O : Objs) (n : Net4) (f : List Int) (stop : Bool) (a af aa : Option Addr) (c cf ca : Nat) (A : Nat → Option Addr) (C : Nat → Nat) (hn : Sound n) (hfl : Flow n f) (hl : Edges O n a c) (hf : Src O 1 (.slice af f.length cf) f.length (f.map I))
    (har : Src O 1 (.slice aa n.nodes.toNat ca) n.nodes.toNat (rowsV n n.edges.length A C)) (hrow : ∀ u, u < n.nodes.toNat → Src O 3 (.slice (A u) (arcsOf n u).length (C u)) (arcsOf n u).length (flat encA (arcsOf n u))) :
    Spec Try.prog false 37 #[netV n a c, .slice af f.length cf, .slice aa n.nodes.toNat ca, .bool stop] O fun v O' => ∃ S b1 b2 b3, searchR n f stop = S.by_ ∧ (S.by_.length : Int) = n.nodes ∧ v = .tuple #[Row b1 0 n.nodes.toNat n.nodes.toNat, Row b2 0 n.nodes.toNat n.nodes.toNat, Row b3 0 n.nodes.toNat n.nodes.toNat] ∧
      O' = (b3, ⟨1, false, (seenL S).map .bool⟩) :: (b2, ⟨1, false, (fromL n S).map I⟩) :: (b1, ⟨3, false, flat encA (byL n S)⟩) :: O := by
  have hnn := hn.nodes
  have hns := hn.source
  have hnk := hn.sink
  have hlen := hn.len
  have hfe := hfl.len
  refine Spec.enter (args := [_, _, _, _]) (m := 95) Try.func37 rfl rfl (by decide +kernel) fun h0 => ?_
  refine WX.seq ?_
  refine WX.region rfl ?_
  refine WXL.box (c := [_, _, _, _]) Met.none rfl rfl rfl (fun b4 => ?_)
  refine WXL.assign Met.none rfl ?_
  refine WXL.assign Met.none rfl ?_
  refine WXL.assign Met.none rfl ?_
  refine WXL.nil ?_
  refine Fin.then_normal ?_
  refine WX.scope ?_
  refine WX.seq ?_
  refine WX.draw rfl ?_
  refine WXL.fieldAddr (off' := 0) Met.none rfl Try.underlying36 rfl sz3 rfl ?_
  first | refine WXL.ld Met.none rfl agg3 ?_ | refine WXL.ldS Met.none rfl agg3 ?_
  refine WXL.makeSlice Met.none rfl rfl elem74 sz79 by79 zero79 (by omega) (by omega) (by omega) rfl (by decide) (by first | rw [Int.toNat_natCast] | exact rfl) (zerosL_flat (E := encA) (⟨0, 0, false⟩ : Arc) _) (fun b17 => ?_)
  refine WXL.fieldAddr (off' := 0) Met.none rfl Try.underlying36 rfl sz3 rfl ?_
  first | refine WXL.ld Met.none rfl agg3 ?_ | refine WXL.ldS Met.none rfl agg3 ?_
  refine WXL.makeSlice Met.none rfl rfl elem22 sz3 by3 zero3 (by omega) (by omega) (by omega) rfl (by decide) (by first | rw [Int.toNat_natCast] | exact rfl) (zerosL_map I 0 _) (fun b20 => ?_)
  refine WXL.fieldAddr (off' := 0) Met.none rfl Try.underlying36 rfl sz3 rfl ?_
  first | refine WXL.ld Met.none rfl agg3 ?_ | refine WXL.ldS Met.none rfl agg3 ?_
  refine WXL.makeSlice Met.none rfl rfl elem46 sz4 by4 zero4 (by omega) (by omega) (by omega) rfl (by decide) (by first | rw [Int.toNat_natCast] | exact rfl) (zerosL_map Value.bool false _) (fun b23 => ?_)
  refine WXL.assign Met.none rfl ?_
  refine WXL.assign Met.none rfl ?_
  refine WXL.assign Met.none rfl ?_
  refine WXL.nil ?_
  refine Fin.then_normal ?_
  refine WX.seq ?_
  refine WX.region rfl ?_
  refine WXL.move Met.none rfl ?_
  refine WXL.fieldAddr (off' := 1) Met.none rfl Try.underlying36 rfl sz3 rfl ?_
  first | refine WXL.ld Met.none rfl agg3 ?_ | refine WXL.ldS Met.none rfl agg3 ?_
  first | refine WXL.ix Met.none rfl rfl elem46 sz4 ?_ | refine WXL.ixS Met.none rfl rfl elem46 sz4 ?_
  refine WXL.st (vs := [_]) Met.none rfl rfl rfl sz4 ?_ (hl := (by rw [List.length_map, List.length_replicate, List.length_singleton]; omega)) (hc := (splice_map Value.bool _ _ true (by rw [List.length_replicate]; omega)))
  refine WXL.nil ?_
  refine Fin.then_normal ?_
  refine WX.seq ?_
  refine WX.region rfl ?_
  refine WXL.fieldAddr (off' := 1) Met.none rfl Try.underlying36 rfl sz3 rfl ?_
  first | refine WXL.ld Met.none rfl agg3 ?_ | refine WXL.ldS Met.none rfl agg3 ?_
  refine WXL.buildSlice (c := [_]) Met.none rfl elem22 sz3 zero3 (by decide) (by decide) rfl rfl rfl rfl (fun b30 => ?_)
  refine WXL.assign Met.none rfl ?_
  refine WXL.nil ?_
  refine Fin.then_normal ?_
  refine WX.seq ?_
  refine WX.label ?_
  refine Fin.then_normal ?_
  refine WX.seq ?_
  refine WX.seq ?_
  refine WX.region rfl ?_
  refine WXL.assign Met.none rfl ?_
  refine WXL.nil ?_
  refine Fin.then_normal ?_
  refine WX.block ?_
  refine WX.loop (fun q : BS × Nat × Nat × Nat => [(1, .slice af f.length cf), (2, .slice aa n.nodes.toNat ca), (3, .bool stop), (4, Ptr b4 0), (8, Row b17 0 n.nodes.toNat n.nodes.toNat), (9, Row b20 0 n.nodes.toNat n.nodes.toNat), (10, Row b23 0 n.nodes.toNat n.nodes.toNat), (11, Row q.2.2.1 0 q.1.queue.length q.2.2.2), (12, I (q.2.1 : Int))]) (fun q => (q.2.2.1, ⟨1, false, q.1.queue.map I⟩) :: (b23, ⟨1, false, (seenL q.1).map .bool⟩) :: (b20, ⟨1, false, (fromL n q.1).map I⟩) :: (b17, ⟨3, false, flat encA (byL n q.1)⟩) :: (b4, ⟨0, false, [I n.nodes, I n.source, I n.sink, .slice a n.edges.length c]⟩) :: O) (fun q => q.2.1 ≤ q.1.queue.length ∧ Good n q.1 ∧ outerL n f stop (n.nodes.toNat - q.2.1) q.1 q.2.1 = searchR n f stop) (fun q => n.nodes.toNat - q.2.1) (startBS n, 0, b30, 1) ⟨Nat.zero_le _, Good.start hn, rfl⟩ ?_ (fun q hq => ?_)
  · intro s hs
    have := hs.told (L' := [(1, .slice af f.length cf), (2, .slice aa n.nodes.toNat ca), (3, .bool stop), (4, Ptr b4 0), (8, Row b17 0 n.nodes.toNat n.nodes.toNat), (9, Row b20 0 n.nodes.toNat n.nodes.toNat), (10, Row b23 0 n.nodes.toNat n.nodes.toNat), (11, Row b30 0 1 1), (12, I ((0 : Nat) : Int))]) ⟨rfl, rfl, rfl, rfl, rfl, rfl, rfl, rfl, rfl, trivial⟩ [0, 1, 2, 3, 4] 5 (by decide) (by decide) rfl
    unfold seenL fromL byL
    simp only [start_seen n hn, start_from n hn, start_by n hn]
    exact this
  obtain ⟨S, k, bq, cq⟩ := q
  obtain ⟨hk1, hgd, hout⟩ := hq
  simp only at hk1 hgd hout
  dsimp only
  have hroom := hgd.room
  have hbl := hgd.len
  refine WX.seq ?_
  refine WX.seq ?_
  refine WX.region rfl ?_
  refine WXL.move Met.none rfl ?_
  refine WXL.move Met.none rfl ?_
  refine WXL.len Met.none rfl Try.underlying22 ?_
  refine WXL.bin Met.none rfl rfl rfl ?_
  refine WXL.nil ?_
  refine Fin.then_normal ?_
  refine WX.cond rfl (fun hc0 => ?_) (fun hc0 => ?_)
  · try simp only [cnd] at hc0
    refine WX.skip ?_
    refine Fin.then_normal ?_
    refine WX.seq ?_
    refine WX.block ?_
    refine WX.seq ?_
    have hkn : k < n.nodes.toNat := by omega
    have huin := hgd.inside _ (nth_mem (l := S.queue) (i := k) (by omega))
    have hRow := hrow (nth S.queue k).toNat (by omega)
    have hrl := arcsTo_len n n.edges.length (nth S.queue k).toNat
    rw [outer_more (by omega) hkn, rest_start huin.1] at hout
    refine WX.region rfl ?_
    refine WXL.move Met.none rfl ?_
    refine WXL.move Met.none rfl ?_
    refine WXL.move Met.none rfl ?_
    first | refine WXL.ix Met.none rfl rfl elem22 sz3 ?_ | refine WXL.ixS Met.none rfl rfl elem22 sz3 ?_
    first | refine WXL.ld Met.none rfl agg3 ?_ | refine WXL.ldS Met.none rfl agg3 ?_
    first | refine WXL.ix Met.none rfl rfl elem72 sz74 ?_ | refine WXL.ixS Met.none rfl rfl elem72 sz74 ?_
    refine WXL.load1S lz_ Met.none rfl src_ agg74 (show _ = some (Value.slice (A (nth S.queue k).toNat) (arcsOf n (nth S.queue k).toNat).length (C (nth S.queue k).toNat)) from cell_range (V := fun u => Value.slice (A u) (arcsTo n n.edges.length u).length (C u)) (u := (nth S.queue k).toNat) (by omega)) ?_
    refine WXL.len Met.none rfl Try.underlying74 ?_
    refine WXL.move Met.none rfl ?_
    refine WXL.nil ?_
    refine Fin.then_normal ?_
    refine WX.block ?_
    obtain ⟨u, hu⟩ : ∃ u, (nth S.queue k).toNat = u := ⟨_, rfl⟩
    have hun : nth S.queue k = (u : Int) := by omega
    rw [hu] at hRow hrl hout
    rw [hun] at hout
    have hrl2 : (arcsOf n u).length ≤ n.edges.length := hrl
    rw [hu]
    refine WX.loop (fun q : BS × Nat × Nat × Nat => [(1, .slice af f.length cf), (2, .slice aa n.nodes.toNat ca), (3, .bool stop), (4, Ptr b4 0), (8, Row b17 0 n.nodes.toNat n.nodes.toNat), (9, Row b20 0 n.nodes.toNat n.nodes.toNat), (10, Row b23 0 n.nodes.toNat n.nodes.toNat), (11, Row q.2.2.1 0 q.1.queue.length q.2.2.2), (12, I (k : Int)), (43, .slice (A u) (arcsOf n u).length (C u)), (44, I ((arcsOf n u).length : Int)), (45, I (q.2.1 : Int))]) (fun q => (q.2.2.1, ⟨1, false, q.1.queue.map I⟩) :: (b23, ⟨1, false, (seenL q.1).map .bool⟩) :: (b20, ⟨1, false, (fromL n q.1).map I⟩) :: (b17, ⟨3, false, flat encA (byL n q.1)⟩) :: (b4, ⟨0, false, [I n.nodes, I n.source, I n.sink, .slice a n.edges.length c]⟩) :: O) (fun q => q.2.1 ≤ (arcsOf n u).length ∧ Good n q.1 ∧ k < q.1.queue.length ∧ nth q.1.queue k = (u : Int) ∧ restL n f stop k u ((incL n u).drop q.2.1) q.1 = searchR n f stop) (fun q => (arcsOf n u).length - q.2.1) (S, 0, bq, cq) ⟨Nat.zero_le _, hgd, by simp only; omega, hun, hout⟩ (fun s hs => hs.tl [0, 1, 2, 3, 4] 5) (fun q hq => ?_)
    obtain ⟨S2, j, bq2, cq2⟩ := q
    obtain ⟨hj1, hgd2, hkq, hku, hin⟩ := hq
    simp only at hj1 hgd2 hkq hku hin
    dsimp only
    have hroom2 := hgd2.room
    have hbl2 := hgd2.len
    refine WX.seq ?_
    refine WX.region rfl ?_
    refine WXL.bin Met.none rfl rfl rfl ?_
    refine WXL.nil ?_
    refine Fin.then_normal ?_
    refine WX.seq ?_
    refine WX.cond rfl (fun hc1 => ?_) (fun hc1 => ?_)
    · try simp only [cnd] at hc1
      refine WX.skip ?_
      refine Fin.then_normal ?_
      refine WX.seq ?_
      refine WX.block ?_
      refine WX.seq ?_
      have hj : j < (arcsOf n u).length := by omega
      have hji : j < (incL n u).length := by rw [arcsOf_eq, List.length_map] at hj; exact hj
      refine WX.region rfl ?_
      first | refine WXL.ix Met.none rfl rfl elem74 sz79 ?_ | refine WXL.ixS Met.none rfl rfl elem74 sz79 ?_
      first | refine WXL.ldN Met.none rfl agg79 sz79 ?_ (hv := (cellsAt_flat encA_len _ _ hj)) | refine WXL.ldNS Met.none rfl agg79 sz79 ?_ (hv := (cellsAt_flat encA_len _ _ hj))
      refine WXL.alloc (c := [_, _, _]) Met.none zero79 rfl (fun b14 => ?_)
      refine WXL.st (vs := [_, _, _]) (c' := [_, _, _]) Met.none rfl rfl rfl sz79 ?_
      refine WXL.nil ?_
      refine Fin.then_normal ?_
      refine WX.seq ?_
      refine WX.seq ?_
      have hnth : nth (arcsOf n u) j = arcAt n u (nth (incL n u) j) := by rw [arcsOf_eq]; exact nth_map hji
      rw [hnth]
      have hmem : nth (incL n u) j ∈ incL n u := nth_mem hji
      rw [List.drop_eq_getElem_cons hji, ← nth_get hji] at hin
      obtain ⟨i, hi⟩ : ∃ i, nth (incL n u) j = i := ⟨_, rfl⟩
      rw [hi] at hmem hin
      rw [hi]
      have hie := (incL_mem hmem).1
      obtain ⟨g1, g2, g3, g4, g5, g6⟩ := arc_rest hn f hmem
      have hvg := visit_gen hn (f := f) hgd2 hmem
      have hin64 := hfl.in64 hn hie
      have hr1 : (restR (nth n.edges i) (nth f i) u).1 = (arcAt n u i).to := by rw [g1]
      have hr2 : (restR (nth n.edges i) (nth f i) u).2 = restP n f (arcAt n u i) := by rw [g1]
      have hsl : (seenL S2).length = S2.by_.length := genOf_len _ _
      have hfl2 : (fromL n S2).length = S2.by_.length := genOf_len _ _
      have hyl : (byL n S2).length = S2.by_.length := genOf_len _ _
      have hsn := seen_nth (S := S2) (v := (arcAt n u i).to.toNat) (by omega)
      refine WX.region rfl ?_
      refine WXL.move Met.none rfl ?_
      refine WXL.fieldAddr (off' := 1) Met.none rfl Try.underlying79 rfl sz3 rfl ?_
      first | refine WXL.ld Met.none rfl agg3 ?_ | refine WXL.ldS Met.none rfl agg3 ?_
      first | refine WXL.ix Met.none rfl rfl elem46 sz4 ?_ | refine WXL.ixS Met.none rfl rfl elem46 sz4 ?_
      first | refine WXL.ld Met.none rfl agg4 ?_ | refine WXL.ldS Met.none rfl agg4 ?_
      refine WXL.move Met.none rfl ?_
      refine WXL.split (d := 54) rfl (fun hg54 => ?_) (fun hg54 => ?_)
      · try simp only [cnd] at hg54
        refine WXL.miss (j := 5) (d := 54) rfl rfl rfl ?_
        refine WXL.miss (j := 5) (d := 54) rfl rfl rfl ?_
        refine WXL.miss (j := 5) (d := 54) rfl rfl rfl ?_
        refine WXL.miss (j := 5) (d := 54) rfl rfl rfl ?_
        refine WXL.miss (j := 5) (d := 54) rfl rfl rfl ?_
        refine WXL.pick_t Met.none rfl rfl ?_
        refine WXL.nil ?_
        refine Fin.then_normal ?_
        refine WX.cond rfl (fun hc2 => ?_) (fun hc2 => nomatch hc2)
        refine WX.exit ?_
        refine Fin.then_exit ?_
        refine Fin.block_hit rfl ?_
        refine Fin.then_normal ?_
        refine WX.region rfl ?_
        refine WXL.bin Met.none rfl rfl bvA ?_
        refine WXL.move Met.none rfl ?_
        refine WXL.nil ?_
        first
        | (have h2 : nth S2.by_ (restR (nth n.edges i) (nth f i) u).1.toNat ≠ -2 := by
             rw [hr1]
             rw [hsn] at hg54
             exact of_decide_eq_true hg54
           rw [rest_skip (try_none2 h2)] at hin
           exact Fin.loop_next (S2, j + 1, bq2, cq2) ⟨by simp only; omega, hgd2, hkq, hku, hin⟩ (by simp only; omega) (fun s hs => hs.tl [1, 2, 3, 4, 5] 6))
        | (have h1 : (restR (nth n.edges i) (nth f i) u).2 ≤ 0 := by rw [hr2]; exact hc2
           rw [rest_skip (try_none1 h1)] at hin
           exact Fin.loop_next (S2, j + 1, bq2, cq2) ⟨by simp only; omega, hgd2, hkq, hku, hin⟩ (by simp only; omega) (fun s hs => hs.tl [1, 2, 3, 4, 5] 6))
        | (have hby : nth S2.by_ (restR (nth n.edges i) (nth f i) u).1.toNat = -2 := by
             rw [hr1]
             rw [hsn] at hg54
             have := of_decide_eq_false hg54
             omega
           have hrs : 0 < (restR (nth n.edges i) (nth f i) u).2 := by rw [hr2]; omega
           have hgp := hgd2.push hn hie hrs hby
           rw [rest_visit (try_some hrs hby) (by rw [hr1]; first | exact fun q => hc3 q.2 | exact fun q => (by rw [hg79] at q; cases q.1))] at hin
           rw [hr1] at hin hgp
           rw [hku, ← hvg.1, ← hvg.2.1, ← hvg.2.2]
           exact Fin.loop_next (⟨S2.by_.set (arcAt n u i).to.toNat i, S2.queue ++ [(arcAt n u i).to]⟩, j + 1, b90, _) ⟨by simp only; omega, hgp, by simp only [List.length_append]; omega, by simp only; rw [nth_append_left hkq]; exact hku, hin⟩ (by simp only; omega) (fun s hs => hs.told ⟨eq_, eq_, eq_, eq_, eq_, eq_, eq_, (by first | exact rfl | (rw [List.length_append]; exact rfl)), eq_, eq_, eq_, eq_, trivial⟩ [2, 3, 4, 5, 6] 7 (by decide) (by decide) rfl))
      · try simp only [cnd] at hg54
        refine WXL.ldN (vs := [_, _, _, _]) (Met.some rfl rfl rfl) rfl agg36 sz36 ?_
        refine WXL.move (Met.some rfl rfl rfl) rfl ?_
        refine WXL.ldN (vs := [_, _, _]) (Met.some rfl rfl rfl) rfl agg79 sz79 ?_
        refine WXL.cl (O1 := _) (Met.some rfl rfl rfl) rfl (fnOk_of Try.func38 (by decide +kernel)) rfl (fun _ h => h) (rest_ok _ n f (arcAt n u i) a af c cf src_ src_ hfe (by omega) (fun _ => by rw [g2]; exact hin64.1) (fun _ => by rw [g2]; exact hin64.2)) (fun v O' hp => ?_)
        obtain ⟨rfl, hO⟩ := hp
        subst O'
        refine WXL.bin (Met.some rfl rfl rfl) rfl rfl rfl ?_
        refine WXL.pick_f Met.none rfl rfl ?_
        refine WXL.nil ?_
        refine Fin.then_normal ?_
        refine WX.cond rfl (fun hc2 => ?_) (fun hc2 => ?_)
        · try simp only [cnd] at hc2
          refine WX.exit ?_
          refine Fin.then_exit ?_
          refine Fin.block_hit rfl ?_
          refine Fin.then_normal ?_
          refine WX.region rfl ?_
          refine WXL.bin Met.none rfl rfl bvA ?_
          refine WXL.move Met.none rfl ?_
          refine WXL.nil ?_
          first
          | (have h2 : nth S2.by_ (restR (nth n.edges i) (nth f i) u).1.toNat ≠ -2 := by
               rw [hr1]
               rw [hsn] at hg54
               exact of_decide_eq_true hg54
             rw [rest_skip (try_none2 h2)] at hin
             exact Fin.loop_next (S2, j + 1, bq2, cq2) ⟨by simp only; omega, hgd2, hkq, hku, hin⟩ (by simp only; omega) (fun s hs => hs.tl [1, 2, 3, 4, 5] 6))
          | (have h1 : (restR (nth n.edges i) (nth f i) u).2 ≤ 0 := by rw [hr2]; exact hc2
             rw [rest_skip (try_none1 h1)] at hin
             exact Fin.loop_next (S2, j + 1, bq2, cq2) ⟨by simp only; omega, hgd2, hkq, hku, hin⟩ (by simp only; omega) (fun s hs => hs.tl [1, 2, 3, 4, 5] 6))
          | (have hby : nth S2.by_ (restR (nth n.edges i) (nth f i) u).1.toNat = -2 := by
               rw [hr1]
               rw [hsn] at hg54
               have := of_decide_eq_false hg54
               omega
             have hrs : 0 < (restR (nth n.edges i) (nth f i) u).2 := by rw [hr2]; omega
             have hgp := hgd2.push hn hie hrs hby
             rw [rest_visit (try_some hrs hby) (by rw [hr1]; first | exact fun q => hc3 q.2 | exact fun q => (by rw [hg79] at q; cases q.1))] at hin
             rw [hr1] at hin hgp
             rw [hku, ← hvg.1, ← hvg.2.1, ← hvg.2.2]
             exact Fin.loop_next (⟨S2.by_.set (arcAt n u i).to.toNat i, S2.queue ++ [(arcAt n u i).to]⟩, j + 1, b90, _) ⟨by simp only; omega, hgp, by simp only [List.length_append]; omega, by simp only; rw [nth_append_left hkq]; exact hku, hin⟩ (by simp only; omega) (fun s hs => hs.told ⟨eq_, eq_, eq_, eq_, eq_, eq_, eq_, (by first | exact rfl | (rw [List.length_append]; exact rfl)), eq_, eq_, eq_, eq_, trivial⟩ [2, 3, 4, 5, 6] 7 (by decide) (by decide) rfl))
        · try simp only [cnd] at hc2
          refine WX.skip ?_
          refine Fin.then_normal ?_
          refine WX.seq ?_
          refine WX.draw rfl ?_
          refine WXL.move Met.none rfl ?_
          refine WXL.fieldAddr (off' := 1) Met.none rfl Try.underlying79 rfl sz3 rfl ?_
          first | refine WXL.ld Met.none rfl agg3 ?_ | refine WXL.ldS Met.none rfl agg3 ?_
          refine WXL.move Met.none rfl ?_
          refine WXL.fieldAddr (off' := 1) Met.none rfl Try.underlying79 rfl sz3 rfl ?_
          refine WXL.lz1 Met.none rfl agg3 ?_
          refine WXL.move Met.none rfl ?_
          refine WXL.fieldAddr (off' := 1) Met.none rfl Try.underlying79 rfl sz3 rfl ?_
          refine WXL.lz1 Met.none rfl agg3 ?_
          refine WXL.lzN (vs := [_, _, _]) Met.none rfl agg79 sz79 ?_
          refine WXL.move Met.none rfl ?_
          refine WXL.move Met.none rfl ?_
          first | refine WXL.ix Met.none rfl rfl elem22 sz3 ?_ | refine WXL.ixS Met.none rfl rfl elem22 sz3 ?_
          first | refine WXL.ld Met.none rfl agg3 ?_ | refine WXL.ldS Met.none rfl agg3 ?_
          first | refine WXL.ix Met.none rfl rfl elem46 sz4 ?_ | refine WXL.ixS Met.none rfl rfl elem46 sz4 ?_
          refine WXL.st (vs := [_]) Met.none rfl rfl rfl sz4 ?_ (hl := (by rw [List.length_map, List.length_singleton]; omega))
          first | refine WXL.ix Met.none rfl rfl elem74 sz79 ?_ | refine WXL.ixS Met.none rfl rfl elem74 sz79 ?_
          refine WXL.st Met.none rfl rfl rfl sz79 ?_ (hl := (by rw [flat_length encA_len]; show _ + 3 ≤ _; omega)) (hc := (splice_flat encA_len _ _ (arcAt n u i) (by omega)))
          first | refine WXL.ix Met.none rfl rfl elem22 sz3 ?_ | refine WXL.ixS Met.none rfl rfl elem22 sz3 ?_
          refine WXL.st (vs := [_]) Met.none rfl rfl rfl sz3 ?_ (hl := (by rw [List.length_map, List.length_singleton]; omega))
          refine WXL.nil ?_
          refine Fin.then_normal ?_
          refine WX.seq ?_
          refine WX.seq ?_
          refine WX.region rfl ?_
          refine WXL.move Met.none rfl ?_
          refine WXL.move Met.none rfl ?_
          refine WXL.split (d := 79) rfl (fun hg79 => ?_) (fun hg79 => ?_)
          · try simp only [cnd] at hg79
            refine WXL.fieldAddr (off' := 1) (Met.some rfl rfl rfl) rfl Try.underlying79 rfl sz3 rfl ?_
            first | refine WXL.ld (Met.some rfl rfl rfl) rfl agg3 ?_ | refine WXL.ldS (Met.some rfl rfl rfl) rfl agg3 ?_
            refine WXL.fieldAddr (off' := 2) (Met.some rfl rfl rfl) rfl Try.underlying36 rfl sz3 rfl ?_
            first | refine WXL.ld (Met.some rfl rfl rfl) rfl agg3 ?_ | refine WXL.ldS (Met.some rfl rfl rfl) rfl agg3 ?_
            refine WXL.bin (Met.some rfl rfl rfl) rfl rfl rfl ?_
            refine WXL.pick_t Met.none rfl rfl ?_
            refine WXL.nil ?_
            refine Fin.then_normal ?_
            refine WX.cond rfl (fun hc3 => ?_) (fun hc3 => ?_)
            · try simp only [cnd] at hc3
              refine WX.exit ?_
              refine Fin.then_exit ?_
              refine Fin.block_miss rfl ?_
              refine Fin.then_exit ?_
              refine Fin.loop_exit ?_
              refine Fin.block_miss rfl ?_
              refine Fin.block_miss rfl ?_
              refine Fin.then_exit ?_
              refine Fin.loop_exit ?_
              refine Fin.block_hit rfl ?_
              refine Fin.then_normal ?_
              refine WX.seq ?_
              refine WX.region rfl ?_
              refine WXL.move Met.none rfl ?_
              refine WXL.move Met.none rfl ?_
              refine WXL.move Met.none rfl ?_
              refine WXL.assign Met.none rfl ?_
              refine WXL.assign Met.none rfl ?_
              refine WXL.assign Met.none rfl ?_
              refine WXL.nil ?_
              refine Fin.then_normal ?_
              refine WX.ret ?_
              first
              | (rw [outer_end (by omega)] at hout
                 exact Fin.result (.inr rfl) rfl rfl (fun _ => Sat.told [1, 2, 3] 5 (by decide) (by decide) rfl) ⟨S, b17, b20, b23, hout.symm, hbl, rfl, rfl⟩)
              | (have hby : nth S2.by_ (restR (nth n.edges i) (nth f i) u).1.toNat = -2 := by
                   rw [hr1]
                   rw [hsn] at hg54
                   have := of_decide_eq_false hg54
                   omega
                 have hrs : 0 < (restR (nth n.edges i) (nth f i) u).2 := by rw [hr2]; omega
                 have hgp := hgd2.push hn hie hrs hby
                 rw [rest_stop (try_some hrs hby) ⟨hg79, by rw [hr1]; exact hc3⟩] at hin
                 rw [hr1] at hin hgp
                 rw [hku, ← hvg.1, ← hvg.2.1, ← hvg.2.2]
                 exact Fin.result (.inr rfl) rfl rfl (fun _ => Sat.told [2, 3, 4] 6 (by decide) (by decide) rfl) ⟨⟨S2.by_.set (arcAt n u i).to.toNat i, S2.queue ++ [(arcAt n u i).to]⟩, b17, b20, b23, hin.symm, hgp.len, rfl, rfl⟩)
            · try simp only [cnd] at hc3
              refine WX.skip ?_
              refine Fin.then_normal ?_
              refine WX.region rfl ?_
              refine WXL.move Met.none rfl ?_
              refine WXL.fieldAddr (off' := 1) Met.none rfl Try.underlying79 rfl sz3 rfl ?_
              first | refine WXL.ld Met.none rfl agg3 ?_ | refine WXL.ldS Met.none rfl agg3 ?_
              refine WXL.buildSlice (c := [_]) Met.none rfl elem22 sz3 zero3 (by decide) (by decide) rfl rfl rfl rfl (fun b89 => ?_)
              first | refine WXL.append 0 Met.none rfl rfl rfl isrow22 rfl (Src.lit (cs := [_])) elem22 sz3 by3 zero3 rfl (by simp) (by omega) (by decide) (by decide) (show _ = (S2.queue ++ [(arcAt n u i).to]).map I from by simp) (by repeat (first | exact Clear.nil | refine Clear.cons 0 rfl rfl ?_ | refine Clear.cons 1 rfl rfl ?_ | refine Clear.cons 2 rfl rfl ?_ | refine Clear.cons 3 rfl rfl ?_ | refine Clear.cons 4 rfl rfl ?_)) (fun b => (by simp only [List.cons_append, List.nil_append, List.set_cons_zero, List.set_cons_succ]; exact rfl)) (fun b90 => ?_) | refine WXL.append 1 Met.none rfl rfl rfl isrow22 rfl (Src.lit (cs := [_])) elem22 sz3 by3 zero3 rfl (by simp) (by omega) (by decide) (by decide) (show _ = (S2.queue ++ [(arcAt n u i).to]).map I from by simp) (by repeat (first | exact Clear.nil | refine Clear.cons 0 rfl rfl ?_ | refine Clear.cons 1 rfl rfl ?_ | refine Clear.cons 2 rfl rfl ?_ | refine Clear.cons 3 rfl rfl ?_ | refine Clear.cons 4 rfl rfl ?_)) (fun b => (by simp only [List.cons_append, List.nil_append, List.set_cons_zero, List.set_cons_succ]; exact rfl)) (fun b90 => ?_) | refine WXL.append 2 Met.none rfl rfl rfl isrow22 rfl (Src.lit (cs := [_])) elem22 sz3 by3 zero3 rfl (by simp) (by omega) (by decide) (by decide) (show _ = (S2.queue ++ [(arcAt n u i).to]).map I from by simp) (by repeat (first | exact Clear.nil | refine Clear.cons 0 rfl rfl ?_ | refine Clear.cons 1 rfl rfl ?_ | refine Clear.cons 2 rfl rfl ?_ | refine Clear.cons 3 rfl rfl ?_ | refine Clear.cons 4 rfl rfl ?_)) (fun b => (by simp only [List.cons_append, List.nil_append, List.set_cons_zero, List.set_cons_succ]; exact rfl)) (fun b90 => ?_) | refine WXL.append 3 Met.none rfl rfl rfl isrow22 rfl (Src.lit (cs := [_])) elem22 sz3 by3 zero3 rfl (by simp) (by omega) (by decide) (by decide) (show _ = (S2.queue ++ [(arcAt n u i).to]).map I from by simp) (by repeat (first | exact Clear.nil | refine Clear.cons 0 rfl rfl ?_ | refine Clear.cons 1 rfl rfl ?_ | refine Clear.cons 2 rfl rfl ?_ | refine Clear.cons 3 rfl rfl ?_ | refine Clear.cons 4 rfl rfl ?_)) (fun b => (by simp only [List.cons_append, List.nil_append, List.set_cons_zero, List.set_cons_succ]; exact rfl)) (fun b90 => ?_) | refine WXL.append 4 Met.none rfl rfl rfl isrow22 rfl (Src.lit (cs := [_])) elem22 sz3 by3 zero3 rfl (by simp) (by omega) (by decide) (by decide) (show _ = (S2.queue ++ [(arcAt n u i).to]).map I from by simp) (by repeat (first | exact Clear.nil | refine Clear.cons 0 rfl rfl ?_ | refine Clear.cons 1 rfl rfl ?_ | refine Clear.cons 2 rfl rfl ?_ | refine Clear.cons 3 rfl rfl ?_ | refine Clear.cons 4 rfl rfl ?_)) (fun b => (by simp only [List.cons_append, List.nil_append, List.set_cons_zero, List.set_cons_succ]; exact rfl)) (fun b90 => ?_) | refine WXL.append 5 Met.none rfl rfl rfl isrow22 rfl (Src.lit (cs := [_])) elem22 sz3 by3 zero3 rfl (by simp) (by omega) (by decide) (by decide) (show _ = (S2.queue ++ [(arcAt n u i).to]).map I from by simp) (by repeat (first | exact Clear.nil | refine Clear.cons 0 rfl rfl ?_ | refine Clear.cons 1 rfl rfl ?_ | refine Clear.cons 2 rfl rfl ?_ | refine Clear.cons 3 rfl rfl ?_ | refine Clear.cons 4 rfl rfl ?_)) (fun b => (by simp only [List.cons_append, List.nil_append, List.set_cons_zero, List.set_cons_succ]; exact rfl)) (fun b90 => ?_) | refine WXL.append 6 Met.none rfl rfl rfl isrow22 rfl (Src.lit (cs := [_])) elem22 sz3 by3 zero3 rfl (by simp) (by omega) (by decide) (by decide) (show _ = (S2.queue ++ [(arcAt n u i).to]).map I from by simp) (by repeat (first | exact Clear.nil | refine Clear.cons 0 rfl rfl ?_ | refine Clear.cons 1 rfl rfl ?_ | refine Clear.cons 2 rfl rfl ?_ | refine Clear.cons 3 rfl rfl ?_ | refine Clear.cons 4 rfl rfl ?_)) (fun b => (by simp only [List.cons_append, List.nil_append, List.set_cons_zero, List.set_cons_succ]; exact rfl)) (fun b90 => ?_) | refine WXL.append 7 Met.none rfl rfl rfl isrow22 rfl (Src.lit (cs := [_])) elem22 sz3 by3 zero3 rfl (by simp) (by omega) (by decide) (by decide) (show _ = (S2.queue ++ [(arcAt n u i).to]).map I from by simp) (by repeat (first | exact Clear.nil | refine Clear.cons 0 rfl rfl ?_ | refine Clear.cons 1 rfl rfl ?_ | refine Clear.cons 2 rfl rfl ?_ | refine Clear.cons 3 rfl rfl ?_ | refine Clear.cons 4 rfl rfl ?_)) (fun b => (by simp only [List.cons_append, List.nil_append, List.set_cons_zero, List.set_cons_succ]; exact rfl)) (fun b90 => ?_)
              refine WXL.assign Met.none rfl ?_
              refine WXL.nil ?_
              refine Fin.block_normal ?_
              refine Fin.then_normal ?_
              refine WX.region rfl ?_
              refine WXL.bin Met.none rfl rfl bvA ?_
              refine WXL.move Met.none rfl ?_
              refine WXL.nil ?_
              first
              | (have h2 : nth S2.by_ (restR (nth n.edges i) (nth f i) u).1.toNat ≠ -2 := by
                   rw [hr1]
                   rw [hsn] at hg54
                   exact of_decide_eq_true hg54
                 rw [rest_skip (try_none2 h2)] at hin
                 exact Fin.loop_next (S2, j + 1, bq2, cq2) ⟨by simp only; omega, hgd2, hkq, hku, hin⟩ (by simp only; omega) (fun s hs => hs.tl [1, 2, 3, 4, 5] 6))
              | (have h1 : (restR (nth n.edges i) (nth f i) u).2 ≤ 0 := by rw [hr2]; exact hc2
                 rw [rest_skip (try_none1 h1)] at hin
                 exact Fin.loop_next (S2, j + 1, bq2, cq2) ⟨by simp only; omega, hgd2, hkq, hku, hin⟩ (by simp only; omega) (fun s hs => hs.tl [1, 2, 3, 4, 5] 6))
              | (have hby : nth S2.by_ (restR (nth n.edges i) (nth f i) u).1.toNat = -2 := by
                   rw [hr1]
                   rw [hsn] at hg54
                   have := of_decide_eq_false hg54
                   omega
                 have hrs : 0 < (restR (nth n.edges i) (nth f i) u).2 := by rw [hr2]; omega
                 have hgp := hgd2.push hn hie hrs hby
                 rw [rest_visit (try_some hrs hby) (by rw [hr1]; first | exact fun q => hc3 q.2 | exact fun q => (by rw [hg79] at q; cases q.1))] at hin
                 rw [hr1] at hin hgp
                 rw [hku, ← hvg.1, ← hvg.2.1, ← hvg.2.2]
                 exact Fin.loop_next (⟨S2.by_.set (arcAt n u i).to.toNat i, S2.queue ++ [(arcAt n u i).to]⟩, j + 1, b90, _) ⟨by simp only; omega, hgp, by simp only [List.length_append]; omega, by simp only; rw [nth_append_left hkq]; exact hku, hin⟩ (by simp only; omega) (fun s hs => hs.told ⟨eq_, eq_, eq_, eq_, eq_, eq_, eq_, (by first | exact rfl | (rw [List.length_append]; exact rfl)), eq_, eq_, eq_, eq_, trivial⟩ [2, 3, 4, 5, 6] 7 (by decide) (by decide) rfl))
          · try simp only [cnd] at hg79
            refine WXL.miss (j := 1) (d := 79) rfl rfl rfl ?_
            refine WXL.miss (j := 1) (d := 79) rfl rfl rfl ?_
            refine WXL.miss (j := 1) (d := 79) rfl rfl rfl ?_
            refine WXL.miss (j := 1) (d := 79) rfl rfl rfl ?_
            refine WXL.miss (j := 1) (d := 79) rfl rfl rfl ?_
            refine WXL.pick_f Met.none rfl rfl ?_
            refine WXL.nil ?_
            refine Fin.then_normal ?_
            refine WX.cond rfl (fun hc3 => nomatch hc3) (fun hc3 => ?_)
            refine WX.skip ?_
            refine Fin.then_normal ?_
            refine WX.region rfl ?_
            refine WXL.move Met.none rfl ?_
            refine WXL.fieldAddr (off' := 1) Met.none rfl Try.underlying79 rfl sz3 rfl ?_
            first | refine WXL.ld Met.none rfl agg3 ?_ | refine WXL.ldS Met.none rfl agg3 ?_
            refine WXL.buildSlice (c := [_]) Met.none rfl elem22 sz3 zero3 (by decide) (by decide) rfl rfl rfl rfl (fun b89 => ?_)
            first | refine WXL.append 0 Met.none rfl rfl rfl isrow22 rfl (Src.lit (cs := [_])) elem22 sz3 by3 zero3 rfl (by simp) (by omega) (by decide) (by decide) (show _ = (S2.queue ++ [(arcAt n u i).to]).map I from by simp) (by repeat (first | exact Clear.nil | refine Clear.cons 0 rfl rfl ?_ | refine Clear.cons 1 rfl rfl ?_ | refine Clear.cons 2 rfl rfl ?_ | refine Clear.cons 3 rfl rfl ?_ | refine Clear.cons 4 rfl rfl ?_)) (fun b => (by simp only [List.cons_append, List.nil_append, List.set_cons_zero, List.set_cons_succ]; exact rfl)) (fun b90 => ?_) | refine WXL.append 1 Met.none rfl rfl rfl isrow22 rfl (Src.lit (cs := [_])) elem22 sz3 by3 zero3 rfl (by simp) (by omega) (by decide) (by decide) (show _ = (S2.queue ++ [(arcAt n u i).to]).map I from by simp) (by repeat (first | exact Clear.nil | refine Clear.cons 0 rfl rfl ?_ | refine Clear.cons 1 rfl rfl ?_ | refine Clear.cons 2 rfl rfl ?_ | refine Clear.cons 3 rfl rfl ?_ | refine Clear.cons 4 rfl rfl ?_)) (fun b => (by simp only [List.cons_append, List.nil_append, List.set_cons_zero, List.set_cons_succ]; exact rfl)) (fun b90 => ?_) | refine WXL.append 2 Met.none rfl rfl rfl isrow22 rfl (Src.lit (cs := [_])) elem22 sz3 by3 zero3 rfl (by simp) (by omega) (by decide) (by decide) (show _ = (S2.queue ++ [(arcAt n u i).to]).map I from by simp) (by repeat (first | exact Clear.nil | refine Clear.cons 0 rfl rfl ?_ | refine Clear.cons 1 rfl rfl ?_ | refine Clear.cons 2 rfl rfl ?_ | refine Clear.cons 3 rfl rfl ?_ | refine Clear.cons 4 rfl rfl ?_)) (fun b => (by simp only [List.cons_append, List.nil_append, List.set_cons_zero, List.set_cons_succ]; exact rfl)) (fun b90 => ?_) | refine WXL.append 3 Met.none rfl rfl rfl isrow22 rfl (Src.lit (cs := [_])) elem22 sz3 by3 zero3 rfl (by simp) (by omega) (by decide) (by decide) (show _ = (S2.queue ++ [(arcAt n u i).to]).map I from by simp) (by repeat (first | exact Clear.nil | refine Clear.cons 0 rfl rfl ?_ | refine Clear.cons 1 rfl rfl ?_ | refine Clear.cons 2 rfl rfl ?_ | refine Clear.cons 3 rfl rfl ?_ | refine Clear.cons 4 rfl rfl ?_)) (fun b => (by simp only [List.cons_append, List.nil_append, List.set_cons_zero, List.set_cons_succ]; exact rfl)) (fun b90 => ?_) | refine WXL.append 4 Met.none rfl rfl rfl isrow22 rfl (Src.lit (cs := [_])) elem22 sz3 by3 zero3 rfl (by simp) (by omega) (by decide) (by decide) (show _ = (S2.queue ++ [(arcAt n u i).to]).map I from by simp) (by repeat (first | exact Clear.nil | refine Clear.cons 0 rfl rfl ?_ | refine Clear.cons 1 rfl rfl ?_ | refine Clear.cons 2 rfl rfl ?_ | refine Clear.cons 3 rfl rfl ?_ | refine Clear.cons 4 rfl rfl ?_)) (fun b => (by simp only [List.cons_append, List.nil_append, List.set_cons_zero, List.set_cons_succ]; exact rfl)) (fun b90 => ?_) | refine WXL.append 5 Met.none rfl rfl rfl isrow22 rfl (Src.lit (cs := [_])) elem22 sz3 by3 zero3 rfl (by simp) (by omega) (by decide) (by decide) (show _ = (S2.queue ++ [(arcAt n u i).to]).map I from by simp) (by repeat (first | exact Clear.nil | refine Clear.cons 0 rfl rfl ?_ | refine Clear.cons 1 rfl rfl ?_ | refine Clear.cons 2 rfl rfl ?_ | refine Clear.cons 3 rfl rfl ?_ | refine Clear.cons 4 rfl rfl ?_)) (fun b => (by simp only [List.cons_append, List.nil_append, List.set_cons_zero, List.set_cons_succ]; exact rfl)) (fun b90 => ?_) | refine WXL.append 6 Met.none rfl rfl rfl isrow22 rfl (Src.lit (cs := [_])) elem22 sz3 by3 zero3 rfl (by simp) (by omega) (by decide) (by decide) (show _ = (S2.queue ++ [(arcAt n u i).to]).map I from by simp) (by repeat (first | exact Clear.nil | refine Clear.cons 0 rfl rfl ?_ | refine Clear.cons 1 rfl rfl ?_ | refine Clear.cons 2 rfl rfl ?_ | refine Clear.cons 3 rfl rfl ?_ | refine Clear.cons 4 rfl rfl ?_)) (fun b => (by simp only [List.cons_append, List.nil_append, List.set_cons_zero, List.set_cons_succ]; exact rfl)) (fun b90 => ?_) | refine WXL.append 7 Met.none rfl rfl rfl isrow22 rfl (Src.lit (cs := [_])) elem22 sz3 by3 zero3 rfl (by simp) (by omega) (by decide) (by decide) (show _ = (S2.queue ++ [(arcAt n u i).to]).map I from by simp) (by repeat (first | exact Clear.nil | refine Clear.cons 0 rfl rfl ?_ | refine Clear.cons 1 rfl rfl ?_ | refine Clear.cons 2 rfl rfl ?_ | refine Clear.cons 3 rfl rfl ?_ | refine Clear.cons 4 rfl rfl ?_)) (fun b => (by simp only [List.cons_append, List.nil_append, List.set_cons_zero, List.set_cons_succ]; exact rfl)) (fun b90 => ?_)
            refine WXL.assign Met.none rfl ?_
            refine WXL.nil ?_
            refine Fin.block_normal ?_
            refine Fin.then_normal ?_
            refine WX.region rfl ?_
            refine WXL.bin Met.none rfl rfl bvA ?_
            refine WXL.move Met.none rfl ?_
            refine WXL.nil ?_
            first
            | (have h2 : nth S2.by_ (restR (nth n.edges i) (nth f i) u).1.toNat ≠ -2 := by
                 rw [hr1]
                 rw [hsn] at hg54
                 exact of_decide_eq_true hg54
               rw [rest_skip (try_none2 h2)] at hin
               exact Fin.loop_next (S2, j + 1, bq2, cq2) ⟨by simp only; omega, hgd2, hkq, hku, hin⟩ (by simp only; omega) (fun s hs => hs.tl [1, 2, 3, 4, 5] 6))
            | (have h1 : (restR (nth n.edges i) (nth f i) u).2 ≤ 0 := by rw [hr2]; exact hc2
               rw [rest_skip (try_none1 h1)] at hin
               exact Fin.loop_next (S2, j + 1, bq2, cq2) ⟨by simp only; omega, hgd2, hkq, hku, hin⟩ (by simp only; omega) (fun s hs => hs.tl [1, 2, 3, 4, 5] 6))
            | (have hby : nth S2.by_ (restR (nth n.edges i) (nth f i) u).1.toNat = -2 := by
                 rw [hr1]
                 rw [hsn] at hg54
                 have := of_decide_eq_false hg54
                 omega
               have hrs : 0 < (restR (nth n.edges i) (nth f i) u).2 := by rw [hr2]; omega
               have hgp := hgd2.push hn hie hrs hby
               rw [rest_visit (try_some hrs hby) (by rw [hr1]; first | exact fun q => hc3 q.2 | exact fun q => (by rw [hg79] at q; cases q.1))] at hin
               rw [hr1] at hin hgp
               rw [hku, ← hvg.1, ← hvg.2.1, ← hvg.2.2]
               exact Fin.loop_next (⟨S2.by_.set (arcAt n u i).to.toNat i, S2.queue ++ [(arcAt n u i).to]⟩, j + 1, b90, _) ⟨by simp only; omega, hgp, by simp only [List.length_append]; omega, by simp only; rw [nth_append_left hkq]; exact hku, hin⟩ (by simp only; omega) (fun s hs => hs.told ⟨eq_, eq_, eq_, eq_, eq_, eq_, eq_, (by first | exact rfl | (rw [List.length_append]; exact rfl)), eq_, eq_, eq_, eq_, trivial⟩ [2, 3, 4, 5, 6] 7 (by decide) (by decide) rfl))
    · try simp only [cnd] at hc1
      refine WX.exit ?_
      refine Fin.then_exit ?_
      refine Fin.loop_exit ?_
      refine Fin.block_hit rfl ?_
      refine Fin.block_normal ?_
      refine Fin.then_normal ?_
      refine WX.region rfl ?_
      refine WXL.move Met.none rfl ?_
      refine WXL.bin Met.none rfl rfl bvA ?_
      refine WXL.assign Met.none rfl ?_
      refine WXL.nil ?_
      have hj2 : (incL n u).length ≤ j := by rw [arcsOf_eq, List.length_map] at hc1; omega
      rw [List.drop_eq_nil_of_le hj2, rest_nil] at hin
      exact Fin.loop_next (S2, k + 1, bq2, cq2) ⟨by simp only; omega, hgd2, hin⟩ (by simp only; omega) (fun s hs => hs.tl [0, 1, 2, 3, 4] 5)
  · try simp only [cnd] at hc0
    refine WX.exit ?_
    refine Fin.then_exit ?_
    refine Fin.loop_exit ?_
    refine Fin.block_hit rfl ?_
    refine Fin.then_normal ?_
    refine WX.seq ?_
    refine WX.region rfl ?_
    refine WXL.move Met.none rfl ?_
    refine WXL.move Met.none rfl ?_
    refine WXL.move Met.none rfl ?_
    refine WXL.assign Met.none rfl ?_
    refine WXL.assign Met.none rfl ?_
    refine WXL.assign Met.none rfl ?_
    refine WXL.nil ?_
    refine Fin.then_normal ?_
    refine WX.ret ?_
    first
    | (rw [outer_end (by omega)] at hout
       exact Fin.result (.inr rfl) rfl rfl (fun _ => Sat.told [1, 2, 3] 5 (by decide) (by decide) rfl) ⟨S, b17, b20, b23, hout.symm, hbl, rfl, rfl⟩)
    | (have hby : nth S2.by_ (restR (nth n.edges i) (nth f i) u).1.toNat = -2 := by
         rw [hr1]
         rw [hsn] at hg54
         have := of_decide_eq_false hg54
         omega
       have hrs : 0 < (restR (nth n.edges i) (nth f i) u).2 := by rw [hr2]; omega
       have hgp := hgd2.push hn hie hrs hby
       rw [rest_stop (try_some hrs hby) ⟨hg79, by rw [hr1]; exact hc3⟩] at hin
       rw [hr1] at hin hgp
       rw [hku, ← hvg.1, ← hvg.2.1, ← hvg.2.2]
       exact Fin.result (.inr rfl) rfl rfl (fun _ => Sat.told [2, 3, 4] 6 (by decide) (by decide) rfl) ⟨⟨S2.by_.set (arcAt n u i).to.toNat i, S2.queue ++ [(arcAt n u i).to]⟩, b17, b20, b23, hin.symm, hgp.len, rfl, rfl⟩)

end Go.Proofs.Ytjmklialkjncaaa.Eng
