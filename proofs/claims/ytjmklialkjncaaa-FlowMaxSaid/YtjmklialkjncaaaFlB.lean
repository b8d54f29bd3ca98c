/- Networks: those made from numbers, and their copies. Own work; no condition. -/
import Derived.Test.YtjmklialkjncaaaFlA
set_option linter.unusedVariables false
set_option linter.unusedSimpArgs false
namespace Go.Proofs.Ytjmklialkjncaaa.Eng

structure E4 where
  a : Int
  b : Int
  cap : Int
  back : Int
  deriving Inhabited

def encE (e : E4) : List Value := [I e.a, I e.b, I e.cap, I e.back]
theorem encE_len (e : E4) : (encE e).length = 4 := rfl

structure Net4 where
  nodes : Int
  source : Int
  sink : Int
  edges : List E4

def netV (n : Net4) (a : Option Addr) (c : Nat) : Value := .agg #[I n.nodes, I n.source, I n.sink, .slice a n.edges.length c]

theorem around_range {n m : Int} (hm : 0 < m) : 0 ≤ around n m ∧ around n m < m := by
  unfold around
  split
  · exact tmod_range (by omega) hm
  · exact tmod_range (by omega) hm

theorem pickI_range {l : List Int} {i m : Int} (hm : 0 < m) : 0 ≤ pickI l i m ∧ pickI l i m < m := by
  unfold pickI
  split
  · omega
  · exact around_range hm

def mkEdge (l : List Int) (nodes : Int) (k : Nat) : E4 :=
  let a := pickI l (3 + 2 * k : Nat) nodes
  let r := around (nth l (3 + 2 * k + 1)) 1000
  { a := a, b := (a + 1 + around ((nth l (3 + 2 * k)).tdiv 8) (nodes - 1)).tmod nodes, cap := r.tmod 7, back := if r.tmod 3 = 0 then (r.tdiv 7).tmod 6 else 0 }

def mkEdges (l : List Int) (nodes : Int) (k : Nat) : List E4 := (List.range k).map (mkEdge l nodes)

def netOf (l : List Int) : Net4 :=
  let nodes := 2 + pickI l 0 7
  let source := pickI l 1 nodes
  { nodes := nodes, source := source, sink := (source + 1 + pickI l 2 (nodes - 1)).tmod nodes, edges := mkEdges l nodes (min 16 ((l.length - 3) / 2)) }

theorem mkEdges_succ (l : List Int) (nodes : Int) (k : Nat) : mkEdges l nodes (k + 1) = mkEdges l nodes k ++ [mkEdge l nodes k] := by
  unfold mkEdges
  rw [List.range_succ, List.map_append]
  rfl

theorem In64.quo {n b : Int} (h : In64 n) (hb : 0 < b) : In64 (n.tdiv b) := by
  obtain ⟨p, q⟩ := tdiv_bound (a := n) hb
  unfold In64 at *
  rcases Int.le_total 0 n with h0 | h0
  · obtain ⟨p1, p2⟩ := p h0; omega
  · obtain ⟨p1, p2⟩ := q h0; omega

theorem network_ok (O : Objs) (l : List Int) (a : Option Addr) (c : Nat) (hl : Src O 1 (.slice a l.length c) l.length (l.map I)) (h64 : All64 l) (hlen : Short l) :
    Spec Try.prog false 11 #[.slice a l.length c] O fun v O' => ∃ a' c' G, v = netV (netOf l) a' c' ∧ Grow 4 a' (netOf l).edges.length c' (flat encE (netOf l).edges) G ∧ O' = G ++ O := by
  unfold Short at hlen
  have hp0 := pickI_range (l := l) (i := 0) (m := 7) (by omega)
  have hp1 := pickI_range (l := l) (i := 1) (m := 2 + pickI l 0 7) (by omega)
  have hp2 := pickI_range (l := l) (i := 2) (m := 2 + pickI l 0 7 - 1) (by omega)
  refine Spec.enter (args := [_]) (m := 87) Try.func11 rfl rfl (by decide +kernel) fun h0 => ?_
  refine WX.seq ?_
  refine WX.region rfl ?_
  refine WXL.alloc (c := [_, _, _, _]) Met.none zero25 rfl (fun b2 => ?_)
  refine WXL.nil ?_
  refine Fin.then_normal ?_
  refine WX.seq ?_
  refine WX.region rfl ?_
  refine WXL.move Met.none rfl ?_
  refine WXL.cl (O1 := _) Met.none rfl (fnOk_of Try.func35 (by decide +kernel)) rfl (fun _ h => h) (pick_ok _ l _ _ _ _ src_ h64 (by omega)) (fun v O' hp => ?_)
  obtain ⟨rfl, hO⟩ := hp
  subst O'
  refine WXL.bin Met.none rfl rfl bvA ?_
  refine WXL.build (c := [_, _, _, _]) Met.none rfl zero25 places25 rfl ?_
  refine WXL.alloc (c := [_, _, _, _]) Met.none zero25 rfl (fun b3 => ?_)
  refine WXL.st (vs := [_, _, _, _]) (c' := [_, _, _, _]) (j := 0) Met.none rfl rfl rfl sz25 ?_ (hj := rfl)
  refine WXL.nil ?_
  refine Fin.then_normal ?_
  refine WX.seq ?_
  refine WX.region rfl ?_
  refine WXL.move Met.none rfl ?_
  refine WXL.fieldAddr (off' := 0) Met.none rfl Try.underlying25 rfl sz3 rfl ?_
  first | refine WXL.ld Met.none rfl agg3 ?_ | refine WXL.ldS Met.none rfl agg3 ?_
  refine WXL.cl (O1 := _) Met.none rfl (fnOk_of Try.func35 (by decide +kernel)) rfl (fun _ h => h) (pick_ok _ l _ _ _ _ src_ h64 (by omega)) (fun v O' hp => ?_)
  obtain ⟨rfl, hO⟩ := hp
  subst O'
  refine WXL.fieldAddr (off' := 1) Met.none rfl Try.underlying25 rfl sz3 rfl ?_
  refine WXL.st (vs := [_]) (c' := [_, _, _, _]) Met.none rfl rfl rfl sz3 ?_
  refine WXL.nil ?_
  refine Fin.then_normal ?_
  refine WX.seq ?_
  refine WX.draw rfl ?_
  refine WXL.fieldAddr (off' := 1) Met.none rfl Try.underlying25 rfl sz3 rfl ?_
  first | refine WXL.ld Met.none rfl agg3 ?_ | refine WXL.ldS Met.none rfl agg3 ?_
  refine WXL.bin Met.none rfl rfl bvA ?_
  refine WXL.move Met.none rfl ?_
  refine WXL.fieldAddr (off' := 0) Met.none rfl Try.underlying25 rfl sz3 rfl ?_
  first | refine WXL.ld Met.none rfl agg3 ?_ | refine WXL.ldS Met.none rfl agg3 ?_
  refine WXL.bin Met.none rfl rfl bvS ?_
  refine WXL.cl (O1 := _) Met.none rfl (fnOk_of Try.func35 (by decide +kernel)) rfl (fun _ h => h) (pick_ok _ l _ _ _ _ src_ h64 (by omega)) (fun v O' hp => ?_)
  obtain ⟨rfl, hO⟩ := hp
  subst O'
  refine WXL.bin Met.none rfl rfl bvA ?_
  refine WXL.fieldAddr (off' := 0) Met.none rfl Try.underlying25 rfl sz3 rfl ?_
  first | refine WXL.ld Met.none rfl agg3 ?_ | refine WXL.ldS Met.none rfl agg3 ?_
  refine WXL.rem Met.none rfl rfl (by omega) ?_
  refine WXL.fieldAddr (off' := 2) Met.none rfl Try.underlying25 rfl sz3 rfl ?_
  refine WXL.st (vs := [_]) (c' := [_, _, _, _]) Met.none rfl rfl rfl sz3 ?_
  refine WXL.nil ?_
  refine Fin.then_normal ?_
  refine WX.seq ?_
  refine WX.seq ?_
  refine WX.region rfl ?_
  refine WXL.assign Met.none rfl ?_
  refine WXL.nil ?_
  refine Fin.then_normal ?_
  refine WX.block ?_
  refine WX.loop (fun q : Nat × Option Addr × Nat × Objs => [(0, .slice a l.length c), (2, Ptr b2 0), (3, Ptr b3 0), (4, I ((3 + 2 * q.1 : Nat) : Int))]) (fun q => (b3, ⟨0, false, [I (2 + pickI l 0 7), I (pickI l 1 (2 + pickI l 0 7)), I ((pickI l 1 (2 + pickI l 0 7) + 1 + pickI l 2 (2 + pickI l 0 7 - 1)).tmod (2 + pickI l 0 7)), .slice q.2.1 q.1 q.2.2.1]⟩) :: (b2, ⟨0, false, [I 0, I 0, I 0, .slice none 0 0]⟩) :: (q.2.2.2 ++ O)) (fun q => q.1 ≤ 16 ∧ 3 + 2 * q.1 ≤ max 3 l.length ∧ Grow 4 q.2.1 q.1 q.2.2.1 (flat encE (mkEdges l (2 + pickI l 0 7) q.1)) q.2.2.2) (fun q => 16 - q.1) (0, none, 0, []) ⟨by omega, by omega, .nil⟩ (fun s hs => hs.tl [0, 1] 2) (fun q hq => ?_)
  obtain ⟨k, ga, gc, G⟩ := q
  obtain ⟨hk1, hk2, hG⟩ := hq
  simp only at hk1 hk2 hG
  dsimp only
  refine WX.seq ?_
  refine WX.seq ?_
  refine WX.region rfl ?_
  refine WXL.move Met.none rfl ?_
  refine WXL.bin Met.none rfl rfl bvA ?_
  refine WXL.move Met.none rfl ?_
  refine WXL.len Met.none rfl Try.underlying22 ?_
  refine WXL.bin Met.none rfl rfl rfl ?_
  refine WXL.move Met.none rfl ?_
  refine WXL.split (d := 36) rfl (fun hg36 => ?_) (fun hg36 => ?_)
  · try simp only [cnd] at hg36
    refine WXL.move (Met.some rfl rfl rfl) rfl ?_
    refine WXL.bin (Met.some rfl rfl rfl) rfl rfl rfl ?_
    refine WXL.pick_t Met.none rfl rfl ?_
    refine WXL.nil ?_
    refine Fin.then_normal ?_
    refine WX.cond rfl (fun hc0 => ?_) (fun hc0 => ?_)
    · try simp only [cnd] at hc0
      refine WX.skip ?_
      refine Fin.then_normal ?_
      refine WX.seq ?_
      refine WX.block ?_
      refine WX.seq ?_
      refine WX.region rfl ?_
      refine WXL.move Met.none rfl ?_
      refine WXL.move Met.none rfl ?_
      refine WXL.fieldAddr (off' := 0) Met.none rfl Try.underlying25 rfl sz3 rfl ?_
      first | refine WXL.ld Met.none rfl agg3 ?_ | refine WXL.ldS Met.none rfl agg3 ?_
      refine WXL.cl (O1 := _) Met.none rfl (fnOk_of Try.func35 (by decide +kernel)) rfl (fun _ h => h) (pick_ok _ l _ _ _ _ src_ h64 (by omega)) (fun v O' hp => ?_)
      obtain ⟨rfl, hO⟩ := hp
      subst O'
      have hpa := pickI_range (l := l) (i := ((3 + 2 * k : Nat) : Int)) (m := 2 + pickI l 0 7) (by omega)
      refine WXL.assign Met.none rfl ?_
      refine WXL.nil ?_
      refine Fin.then_normal ?_
      refine WX.seq ?_
      have hx := h64 (nth l (3 + 2 * k)) (nth_mem (by omega))
      have hxq := In64.quo hx (b := 8) (by omega)
      unfold In64 at hx
      refine WX.draw rfl ?_
      refine WXL.move Met.none rfl ?_
      refine WXL.bin Met.none rfl rfl bvA ?_
      refine WXL.move Met.none rfl ?_
      refine WXL.move Met.none rfl ?_
      first | refine WXL.ix Met.none rfl rfl elem22 sz3 ?_ | refine WXL.ixS Met.none rfl rfl elem22 sz3 ?_
      first | refine WXL.ld Met.none rfl agg3 ?_ | refine WXL.ldS Met.none rfl agg3 ?_
      refine WXL.qu Met.none rfl rfl ?_
      refine WXL.fieldAddr (off' := 0) Met.none rfl Try.underlying25 rfl sz3 rfl ?_
      first | refine WXL.ld Met.none rfl agg3 ?_ | refine WXL.ldS Met.none rfl agg3 ?_
      refine WXL.bin Met.none rfl rfl bvS ?_
      refine WXL.cl (O1 := _) Met.none rfl (fnOk_of Try.func13 (by decide +kernel)) rfl (fun _ h => h) (around_ok _ _ _ hxq (by omega)) (fun v O' hp => ?_)
      obtain ⟨rfl, hO⟩ := hp
      subst O'
      have hpb := around_range (n := (nth l (3 + 2 * k)).tdiv 8) (m := 2 + pickI l 0 7 - 1) (by omega)
      refine WXL.bin Met.none rfl rfl bvA ?_
      refine WXL.fieldAddr (off' := 0) Met.none rfl Try.underlying25 rfl sz3 rfl ?_
      first | refine WXL.ld Met.none rfl agg3 ?_ | refine WXL.ldS Met.none rfl agg3 ?_
      refine WXL.rem Met.none rfl rfl (by omega) ?_
      refine WXL.assign Met.none rfl ?_
      refine WXL.nil ?_
      refine Fin.then_normal ?_
      refine WX.seq ?_
      refine WX.region rfl ?_
      refine WXL.move Met.none rfl ?_
      refine WXL.move Met.none rfl ?_
      refine WXL.bin Met.none rfl rfl bvA ?_
      first | refine WXL.ix Met.none rfl rfl elem22 sz3 ?_ | refine WXL.ixS Met.none rfl rfl elem22 sz3 ?_
      first | refine WXL.ld Met.none rfl agg3 ?_ | refine WXL.ldS Met.none rfl agg3 ?_
      refine WXL.cl (O1 := _) Met.none rfl (fnOk_of Try.func13 (by decide +kernel)) rfl (fun _ h => h) (around_ok _ _ _ (h64 _ (nth_mem (by omega))) (by omega)) (fun v O' hp => ?_)
      obtain ⟨rfl, hO⟩ := hp
      subst O'
      have hpr := around_range (n := nth l (3 + 2 * k + 1)) (m := 1000) (by omega)
      refine WXL.assign Met.none rfl ?_
      refine WXL.nil ?_
      refine Fin.then_normal ?_
      refine WX.seq ?_
      refine WX.region rfl ?_
      refine WXL.move Met.none rfl ?_
      refine WXL.move Met.none rfl ?_
      refine WXL.move Met.none rfl ?_
      refine WXL.rem Met.none rfl rfl (by omega) ?_
      refine WXL.build (c := [_, _, _, _]) Met.none rfl zero63 places63 rfl ?_
      refine WXL.alloc (c := [_, _, _, _]) Met.none zero63 rfl (fun b8 => ?_)
      refine WXL.st (vs := [_, _, _, _]) (c' := [_, _, _, _]) Met.none rfl rfl rfl sz63 ?_
      refine WXL.nil ?_
      refine Fin.then_normal ?_
      refine WX.seq ?_
      refine WX.seq ?_
      refine WX.region rfl ?_
      refine WXL.move Met.none rfl ?_
      refine WXL.rem Met.none rfl rfl (by omega) ?_
      refine WXL.bin Met.none rfl rfl rfl ?_
      refine WXL.nil ?_
      refine Fin.then_normal ?_
      refine WX.cond rfl (fun hc1 => ?_) (fun hc1 => ?_)
      · try simp only [cnd] at hc1
        refine WX.region rfl ?_
        refine WXL.move Met.none rfl ?_
        refine WXL.qu Met.none rfl rfl ?_
        refine WXL.rem Met.none rfl rfl (by omega) ?_
        refine WXL.fieldAddr (off' := 3) Met.none rfl Try.underlying63 rfl sz3 rfl ?_
        refine WXL.st (vs := [_]) (c' := [_, _, _, _]) Met.none rfl rfl rfl sz3 ?_
        refine WXL.nil ?_
        refine Fin.then_normal ?_
        refine WX.region rfl ?_
        refine WXL.fieldAddr (off' := 3) Met.none rfl Try.underlying25 rfl sz23 rfl ?_
        first | refine WXL.ld Met.none rfl agg23 ?_ | refine WXL.ldS Met.none rfl agg23 ?_
        refine WXL.ldN (vs := [_, _, _, _]) Met.none rfl agg63 sz63 ?_
        refine WXL.buildSlice (c := [_, _, _, _]) Met.none rfl elem23 sz63 zero63 (by decide) (by decide) rfl rfl rfl rfl (fun b83 => ?_)
        refine WXL.apG [_, _, _, _] Met.none rfl rfl isrow23 elem23 sz63 by63 zero63 (Src.lit (cs := [_, _, _, _])) (fun a84 c84 G84 hG84 => ?_)
        refine WXL.fieldAddr (off' := 3) Met.none rfl Try.underlying25 rfl sz23 rfl ?_
        refine WXL.st (vs := [_]) (c' := [_, _, _, _]) Met.none rfl rfl rfl sz23 ?_
        refine WXL.nil ?_
        refine Fin.block_normal ?_
        refine Fin.then_normal ?_
        refine WX.region rfl ?_
        refine WXL.move Met.none rfl ?_
        refine WXL.bin Met.none rfl rfl bvA ?_
        refine WXL.assign Met.none rfl ?_
        refine WXL.nil ?_
        refine Fin.loop_next (k + 1, a84, c84, G84) ⟨by omega, by omega, ?_⟩ (by simp only; omega) (fun s hs => hs.tl [2, 3] 4)
        have hE : flat encE [mkEdge l (2 + pickI l 0 7) k] = encE (mkEdge l (2 + pickI l 0 7) k) := by simp [flat]
        rw [mkEdges_succ, flat_append, hE]
        unfold mkEdge
        dsimp only
        first | rw [if_pos hc1] | rw [if_neg hc1]
        exact hG84
      · try simp only [cnd] at hc1
        refine WX.skip ?_
        refine Fin.then_normal ?_
        refine WX.region rfl ?_
        refine WXL.fieldAddr (off' := 3) Met.none rfl Try.underlying25 rfl sz23 rfl ?_
        first | refine WXL.ld Met.none rfl agg23 ?_ | refine WXL.ldS Met.none rfl agg23 ?_
        refine WXL.ldN (vs := [_, _, _, _]) Met.none rfl agg63 sz63 ?_
        refine WXL.buildSlice (c := [_, _, _, _]) Met.none rfl elem23 sz63 zero63 (by decide) (by decide) rfl rfl rfl rfl (fun b83 => ?_)
        refine WXL.apG [_, _, _, _] Met.none rfl rfl isrow23 elem23 sz63 by63 zero63 (Src.lit (cs := [_, _, _, _])) (fun a84 c84 G84 hG84 => ?_)
        refine WXL.fieldAddr (off' := 3) Met.none rfl Try.underlying25 rfl sz23 rfl ?_
        refine WXL.st (vs := [_]) (c' := [_, _, _, _]) Met.none rfl rfl rfl sz23 ?_
        refine WXL.nil ?_
        refine Fin.block_normal ?_
        refine Fin.then_normal ?_
        refine WX.region rfl ?_
        refine WXL.move Met.none rfl ?_
        refine WXL.bin Met.none rfl rfl bvA ?_
        refine WXL.assign Met.none rfl ?_
        refine WXL.nil ?_
        refine Fin.loop_next (k + 1, a84, c84, G84) ⟨by omega, by omega, ?_⟩ (by simp only; omega) (fun s hs => hs.tl [2, 3] 4)
        have hE : flat encE [mkEdge l (2 + pickI l 0 7) k] = encE (mkEdge l (2 + pickI l 0 7) k) := by simp [flat]
        rw [mkEdges_succ, flat_append, hE]
        unfold mkEdge
        dsimp only
        first | rw [if_pos hc1] | rw [if_neg hc1]
        exact hG84
    · try simp only [cnd] at hc0
      refine WX.exit ?_
      refine Fin.then_exit ?_
      refine Fin.loop_exit ?_
      refine Fin.block_hit rfl ?_
      refine Fin.then_normal ?_
      refine WX.seq ?_
      refine WX.region rfl ?_
      refine WXL.ldN (vs := [_, _, _, _]) Met.none rfl agg25 sz25 ?_
      refine WXL.st (vs := [_, _, _, _]) (c' := [_, _, _, _]) Met.none rfl rfl rfl sz25 ?_
      refine WXL.nil ?_
      refine Fin.then_normal ?_
      refine WX.ret ?_
      refine Fin.results (O' := G ++ O) (.inr rfl) rfl (vs := [netV (netOf l) ga gc]) ⟨⟨b2, 0, rfl, ?_⟩, trivial⟩ (fun _ => Sat.told [] 2 (by decide) (by decide) rfl) ⟨ga, gc, G, rfl, ?_, rfl⟩
      · have hk : k = min 16 ((l.length - 3) / 2) := by omega
        rw [hk]
        refine load_agg (n := 4) (vs := [_, _, _, _]) at_ agg25 sz25 ?_
        unfold netOf mkEdges
        simp only [List.length_map, List.length_range]
        rfl
      · have hk : k = min 16 ((l.length - 3) / 2) := by omega
        have e1 : (netOf l).edges = mkEdges l (2 + pickI l 0 7) k := by rw [hk]; rfl
        have e2 : (mkEdges l (2 + pickI l 0 7) k).length = k := by unfold mkEdges; simp
        rw [e1, e2]
        exact hG
  · try simp only [cnd] at hg36
    refine WXL.miss (j := 5) (d := 36) rfl rfl rfl ?_
    refine WXL.miss (j := 5) (d := 36) rfl rfl rfl ?_
    refine WXL.pick_f Met.none rfl rfl ?_
    refine WXL.nil ?_
    refine Fin.then_normal ?_
    refine WX.cond rfl (fun hc0 => nomatch hc0) (fun hc0 => ?_)
    refine WX.exit ?_
    refine Fin.then_exit ?_
    refine Fin.loop_exit ?_
    refine Fin.block_hit rfl ?_
    refine Fin.then_normal ?_
    refine WX.seq ?_
    refine WX.region rfl ?_
    refine WXL.ldN (vs := [_, _, _, _]) Met.none rfl agg25 sz25 ?_
    refine WXL.st (vs := [_, _, _, _]) (c' := [_, _, _, _]) Met.none rfl rfl rfl sz25 ?_
    refine WXL.nil ?_
    refine Fin.then_normal ?_
    refine WX.ret ?_
    refine Fin.results (O' := G ++ O) (.inr rfl) rfl (vs := [netV (netOf l) ga gc]) ⟨⟨b2, 0, rfl, ?_⟩, trivial⟩ (fun _ => Sat.told [] 2 (by decide) (by decide) rfl) ⟨ga, gc, G, rfl, ?_, rfl⟩
    · have hk : k = min 16 ((l.length - 3) / 2) := by omega
      rw [hk]
      refine load_agg (n := 4) (vs := [_, _, _, _]) at_ agg25 sz25 ?_
      unfold netOf mkEdges
      simp only [List.length_map, List.length_range]
      rfl
    · have hk : k = min 16 ((l.length - 3) / 2) := by omega
      have e1 : (netOf l).edges = mkEdges l (2 + pickI l 0 7) k := by rw [hk]; rfl
      have e2 : (mkEdges l (2 + pickI l 0 7) k).length = k := by unfold mkEdges; simp
      rw [e1, e2]
      exact hG

end Go.Proofs.Ytjmklialkjncaaa.Eng
