/- A network's copy; what is valid. Own work; no condition. -/
import Derived.Test.YtjmklialkjncaaaFlB
set_option linter.unusedVariables false
set_option linter.unusedSimpArgs false
namespace Go.Proofs.Ytjmklialkjncaaa.Eng

/-- A network's row of edges lies in the memory. -/
abbrev Edges (O : Objs) (n : Net4) (a : Option Addr) (c : Nat) : Prop := Src O 4 (.slice a n.edges.length c) n.edges.length (flat encE n.edges)

theorem flat_encE_len (l : List E4) : (flat encE l).length = l.length * 4 := flat_length encE_len l

theorem own_ok (O : Objs) (n : Net4) (a : Option Addr) (c : Nat) (hl : Edges O n a c) (hlen : n.edges.length ≤ 1000000) :
    Spec Try.prog false 16 #[netV n a c] O fun v O' => ∃ a' c' G, v = netV n a' c' ∧ Grow 4 a' n.edges.length c' (flat encE n.edges) G ∧ O' = G ++ O := by
  refine Spec.enter (args := [_]) (m := 40) Try.func16 rfl rfl (by decide +kernel) fun h0 => ?_
  refine WX.seq ?_
  refine WX.region rfl ?_
  refine WXL.box (c := [_, _, _, _]) Met.none rfl rfl rfl (fun b1 => ?_)
  refine WXL.alloc (c := [_, _, _, _]) Met.none zero36 rfl (fun b2 => ?_)
  refine WXL.nil ?_
  refine Fin.then_normal ?_
  refine WX.seq ?_
  refine WX.region rfl ?_
  refine WXL.fieldAddr (off' := 0) Met.none rfl Try.underlying25 rfl sz3 rfl ?_
  first | refine WXL.ld Met.none rfl agg3 ?_ | refine WXL.ldS Met.none rfl agg3 ?_
  refine WXL.fieldAddr (off' := 1) Met.none rfl Try.underlying25 rfl sz3 rfl ?_
  first | refine WXL.ld Met.none rfl agg3 ?_ | refine WXL.ldS Met.none rfl agg3 ?_
  refine WXL.fieldAddr (off' := 2) Met.none rfl Try.underlying25 rfl sz3 rfl ?_
  first | refine WXL.ld Met.none rfl agg3 ?_ | refine WXL.ldS Met.none rfl agg3 ?_
  refine WXL.build (c := [_, _, _, _]) Met.none rfl zero36 places36 rfl ?_
  refine WXL.alloc (c := [_, _, _, _]) Met.none zero36 rfl (fun b3 => ?_)
  refine WXL.st (vs := [_, _, _, _]) (c' := [_, _, _, _]) Met.none rfl rfl rfl sz36 ?_
  refine WXL.nil ?_
  refine Fin.then_normal ?_
  refine WX.seq ?_
  refine WX.seq ?_
  refine WX.region rfl ?_
  refine WXL.assign Met.none rfl ?_
  refine WXL.nil ?_
  refine Fin.then_normal ?_
  refine WX.block ?_
  refine WX.loop (fun q : Nat × Option Addr × Nat × Objs => [(1, Ptr b1 0), (2, Ptr b2 0), (3, Ptr b3 0), (4, I (q.1 : Int))]) (fun q => (b3, ⟨0, false, [I n.nodes, I n.source, I n.sink, .slice q.2.1 q.1 q.2.2.1]⟩) :: (b2, ⟨0, false, [I 0, I 0, I 0, .slice none 0 0]⟩) :: (b1, ⟨0, false, [I n.nodes, I n.source, I n.sink, .slice a n.edges.length c]⟩) :: (q.2.2.2 ++ O)) (fun q => q.1 ≤ n.edges.length ∧ Grow 4 q.2.1 q.1 q.2.2.1 (flat encE (n.edges.take q.1)) q.2.2.2) (fun q => n.edges.length - q.1) (0, none, 0, []) ⟨by omega, .nil⟩ (fun s hs => hs.tl [0, 1, 2] 3) (fun q hq => ?_)
  obtain ⟨k, ga, gc, G⟩ := q
  obtain ⟨hk1, hG⟩ := hq
  simp only at hk1 hG
  dsimp only
  refine WX.seq ?_
  refine WX.seq ?_
  refine WX.region rfl ?_
  refine WXL.move Met.none rfl ?_
  refine WXL.fieldAddr (off' := 3) Met.none rfl Try.underlying25 rfl sz23 rfl ?_
  first | refine WXL.ld Met.none rfl agg23 ?_ | refine WXL.ldS Met.none rfl agg23 ?_
  refine WXL.len Met.none rfl Try.underlying23 ?_
  refine WXL.bin Met.none rfl rfl rfl ?_
  refine WXL.nil ?_
  refine Fin.then_normal ?_
  refine WX.cond rfl (fun hc0 => ?_) (fun hc0 => ?_)
  · try simp only [cnd] at hc0
    refine WX.skip ?_
    refine Fin.then_normal ?_
    refine WX.seq ?_
    refine WX.block ?_
    refine WX.seq ?_
    refine WX.region rfl ?_
    refine WXL.fieldAddr (off' := 3) Met.none rfl Try.underlying25 rfl sz23 rfl ?_
    first | refine WXL.ld Met.none rfl agg23 ?_ | refine WXL.ldS Met.none rfl agg23 ?_
    refine WXL.move Met.none rfl ?_
    first | refine WXL.ix Met.none rfl rfl elem23 sz63 ?_ | refine WXL.ixS Met.none rfl rfl elem23 sz63 ?_
    first | refine WXL.ldN Met.none rfl agg63 sz63 ?_ (hv := (cellsAt_flat encE_len _ _ (by omega))) | refine WXL.ldNS Met.none rfl agg63 sz63 ?_ (hv := (cellsAt_flat encE_len _ _ (by omega)))
    refine WXL.alloc (c := [_, _, _, _]) Met.none zero63 rfl (fun b5 => ?_)
    refine WXL.st (vs := [_, _, _, _]) (c' := [_, _, _, _]) Met.none rfl rfl rfl sz63 ?_
    refine WXL.nil ?_
    refine Fin.then_normal ?_
    refine WX.region rfl ?_
    refine WXL.fieldAddr (off' := 3) Met.none rfl Try.underlying36 rfl sz34 rfl ?_
    first | refine WXL.ld Met.none rfl agg34 ?_ | refine WXL.ldS Met.none rfl agg34 ?_
    refine WXL.fieldAddr (off' := 0) Met.none rfl Try.underlying63 rfl sz3 rfl ?_
    first | refine WXL.ld Met.none rfl agg3 ?_ | refine WXL.ldS Met.none rfl agg3 ?_
    refine WXL.fieldAddr (off' := 1) Met.none rfl Try.underlying63 rfl sz3 rfl ?_
    first | refine WXL.ld Met.none rfl agg3 ?_ | refine WXL.ldS Met.none rfl agg3 ?_
    refine WXL.fieldAddr (off' := 2) Met.none rfl Try.underlying63 rfl sz3 rfl ?_
    first | refine WXL.ld Met.none rfl agg3 ?_ | refine WXL.ldS Met.none rfl agg3 ?_
    refine WXL.fieldAddr (off' := 3) Met.none rfl Try.underlying63 rfl sz3 rfl ?_
    first | refine WXL.ld Met.none rfl agg3 ?_ | refine WXL.ldS Met.none rfl agg3 ?_
    refine WXL.build (c := [_, _, _, _]) Met.none rfl zero44 places44 rfl ?_
    refine WXL.buildSlice (c := [_, _, _, _]) Met.none rfl elem34 sz44 zero44 (by decide) (by decide) rfl rfl rfl rfl (fun b36 => ?_)
    refine WXL.apG [_, _, _, _, _] Met.none rfl rfl isrow34 elem34 sz44 by44 zero44 (Src.lit (cs := [_, _, _, _])) (fun a37 c37 G37 hG37 => ?_)
    refine WXL.fieldAddr (off' := 3) Met.none rfl Try.underlying36 rfl sz34 rfl ?_
    refine WXL.st (vs := [_]) (c' := [_, _, _, _]) Met.none rfl rfl rfl sz34 ?_
    refine WXL.nil ?_
    refine Fin.block_normal ?_
    refine Fin.then_normal ?_
    refine WX.region rfl ?_
    refine WXL.move Met.none rfl ?_
    refine WXL.bin Met.none rfl rfl bvA ?_
    refine WXL.assign Met.none rfl ?_
    refine WXL.nil ?_
    refine Fin.loop_next (k + 1, a37, c37, G37) ⟨by simp only; omega, ?_⟩ (by simp only; omega) (fun s hs => hs.tl [2, 3, 4] 5)
    rw [take_succ_nth (by omega), flat_append]
    have hE : flat encE [nth n.edges k] = encE (nth n.edges k) := by simp [flat]
    rw [hE]
    exact hG37
  · try simp only [cnd] at hc0
    refine WX.exit ?_
    refine Fin.then_exit ?_
    refine Fin.loop_exit ?_
    refine Fin.block_hit rfl ?_
    refine Fin.then_normal ?_
    refine WX.seq ?_
    refine WX.region rfl ?_
    refine WXL.ldN (vs := [_, _, _, _]) Met.none rfl agg36 sz36 ?_
    refine WXL.st (vs := [_, _, _, _]) (c' := [_, _, _, _]) Met.none rfl rfl rfl sz36 ?_
    refine WXL.nil ?_
    refine Fin.then_normal ?_
    refine WX.ret ?_
    have hk : k = n.edges.length := by omega
    subst hk
    rw [List.take_length] at hG
    exact Fin.results (O' := G ++ O) (.inr rfl) rfl (vs := [netV n ga gc]) ⟨⟨b2, 0, rfl, load_agg (n := 4) (vs := [_, _, _, _]) at_ agg36 sz36 rfl⟩, trivial⟩ (fun _ => Sat.told [] 3 (by decide) (by decide) rfl) ⟨ga, gc, G, rfl, hG, rfl⟩

end Go.Proofs.Ytjmklialkjncaaa.Eng
