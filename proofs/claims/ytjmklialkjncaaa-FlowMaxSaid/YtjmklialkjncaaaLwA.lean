/- The law FlowMax, walked. Own work; no condition. -/
import Derived.Test.YtjmklialkjncaaaFlZ
set_option linter.unusedVariables false
set_option linter.unusedSimpArgs false
namespace Go.Proofs.Ytjmklialkjncaaa.Eng

instance : Inhabited Net4 := ⟨⟨0, 0, 0, []⟩⟩

/-- A network with its row. -/
structure NetP where
  net : Net4
  a : Option Addr
  c : Nat
  deriving Inhabited

def encN (p : NetP) : List Value := [I p.net.nodes, I p.net.source, I p.net.sink, .slice p.a p.net.edges.length p.c]
theorem encN_len (p : NetP) : (encN p).length = 4 := rfl

theorem cell_flatN (l : List NetP) (k j : Nat) {v : Value} (h : k < l.length) (hv : (encN (nth l k))[j]? = some v) : (flat encN l)[k * 4 + j]? = some v := by
  rw [cell_flat encN_len l k j h, hv]
  have := (List.getElem?_eq_some_iff.1 hv).1
  rw [encN_len] at this
  exact this

theorem spoilt_q (O : Objs) (n : Net4) (how by_ : Int) (a : Option Addr) (c : Nat) (hl : Edges O n a c) (hlen : n.edges.length ≤ 1000) (hh : In64 how) (hb : In64 by_) :
    Spec Try.prog true 12 #[netV n a c, I how, I by_] O fun v O' => ∃ (x : Net4) (a' : Option Addr) (c' : Nat) (G : Objs), v = netV x a' c' ∧ Grow 4 a' x.edges.length c' (flat encE x.edges) G ∧ x.edges.length ≤ n.edges.length + 1 ∧ O' = G ++ O :=
  (Spec.frame (Post := fun v N => ∃ (x : Net4) (a' : Option Addr) (c' : Nat), v = netV x a' c' ∧ Grow 4 a' x.edges.length c' (flat encE x.edges) N ∧ x.edges.length ≤ n.edges.length + 1)
    ((spoilt_ok (roO O) n how by_ a c hl.roh hlen hh hb).mono fun v O' ⟨x, a', c', G, h1, h2, h3, h4⟩ => ⟨G, ⟨x, a', c', h1, h2, h3⟩, h2.own, h4⟩)).mono fun v O' ⟨N, ⟨x, a', c', h1, h2, h3⟩, h4⟩ => ⟨x, a', c', N, h1, h2, h3, h4⟩

theorem St.mid {x : Cx} {L : Tmps} {G A R : Objs} {s : ASt} (hs : St x L (G ++ (A ++ R)) s) : St x L (G ++ R) s := ⟨hs.m, hs.t, hs.sat.mid, hs.old⟩

theorem netOf_len (l : List Int) : (netOf l).edges.length ≤ 16 := by
  unfold netOf mkEdges
  simp only [List.length_map, List.length_range]
  omega

theorem flowMax_ok (O : Objs) (l : List Int) (how by_ : Int) (a : Option Addr) (c : Nat) (hl : Src O 1 (.slice a l.length c) l.length (l.map I)) (h64 : All64 l) (hlen : Short l) (hh : In64 how) (hb : In64 by_) :
    Spec Try.prog false 3 #[.slice a l.length c, I how, I by_] O fun v _ => v = .bool true := by
  have h9 := around_range (n := by_) (m := 9) (by omega)
  have hnl := netOf_len l
  refine Spec.enter (args := [_, _, _]) (m := 76) Try.func3 rfl rfl (by decide +kernel) fun h0 => ?_
  refine WX.seq ?_
  refine WX.region rfl ?_
  refine WXL.assign Met.none rfl ?_
  refine WXL.nil ?_
  refine Fin.then_normal ?_
  refine WX.seq ?_
  refine WX.region rfl ?_
  refine WXL.move Met.none rfl ?_
  refine WXL.cl (O1 := _) Met.none rfl (fnOk_of Try.func11 (by decide +kernel)) rfl (fun _ h => h) (network_ok _ l a c src_ h64 hlen) (fun v O' hp => ?_)
  obtain ⟨a1, c1, G1, rfl, hG1, rfl⟩ := hp
  refine WXL.alloc (c := [_, _, _, _]) Met.none zero25 rfl (fun b7 => ?_)
  refine WXL.st (vs := [_, _, _, _]) (c' := [_, _, _, _]) Met.none rfl rfl rfl sz25 ?_
  refine WXL.nil ?_
  refine Fin.then_normal ?_
  refine WX.seq ?_
  refine WX.draw rfl ?_
  refine WXL.ldN (vs := [_, _, _, _]) Met.none rfl agg25 sz25 ?_
  refine WXL.move Met.none rfl ?_
  refine WXL.move Met.none rfl ?_
  refine WXL.cl (O1 := _) Met.none rfl (fnOk_of Try.func13 (by decide +kernel)) rfl (fun _ h => h) (around_ok _ _ _ hb (by omega)) (fun v O' hp => ?_)
  obtain ⟨rfl, hO⟩ := hp
  subst O'
  refine WXL.cl (O1 := _) Met.none rfl (fnOk_of Try.func12 (by decide +kernel)) rfl (fun _ h => h) (spoilt_q _ (netOf l) how (around by_ 9) a1 c1 src_ (by omega) hh (by unfold In64; omega)) (fun v O' hp => ?_)
  obtain ⟨x, a2, c2, G2, rfl, hG2, hxl, rfl⟩ := hp
  refine WXL.of (fun s hs => St.swap (G := G2) [_] hs) ?_
  refine WXL.alloc (c := [_, _, _, _]) Met.none zero25 rfl (fun b8 => ?_)
  refine WXL.st (vs := [_, _, _, _]) (c' := [_, _, _, _]) Met.none rfl rfl rfl sz25 ?_
  refine WXL.nil ?_
  refine Fin.then_normal ?_
  refine WX.seq ?_
  refine WX.region rfl ?_
  refine WXL.ldN (vs := [_, _, _, _]) Met.none rfl agg25 sz25 ?_
  refine WXL.ldN (vs := [_, _, _, _]) Met.none rfl agg25 sz25 ?_
  refine WXL.buildSlice (c := [_, _, _, _, _, _, _, _]) Met.none rfl elem29 sz25 zero25 (by decide) (by decide) rfl rfl rfl rfl (fun b25 => ?_)
  refine WXL.assign Met.none rfl ?_
  refine WXL.nil ?_
  refine Fin.then_normal ?_
  refine WX.seq ?_
  refine WX.seq ?_
  refine WX.region rfl ?_
  refine WXL.assign Met.none rfl ?_
  refine WXL.nil ?_
  refine Fin.then_normal ?_
  refine WX.block ?_
  obtain ⟨Ls, hLs⟩ : ∃ Ls : List NetP, Ls = [⟨netOf l, a1, c1⟩, ⟨x, a2, c2⟩] := ⟨_, rfl⟩
  have hLl : Ls.length = 2 := by rw [hLs]; rfl
  obtain ⟨T, hT⟩ : ∃ T : Objs, T = G2 ++ (G1 ++ O) := ⟨_, rfl⟩
  have hE : ∀ k, k < 2 → Edges T (nth Ls k).net (nth Ls k).a (nth Ls k).c ∧ (nth Ls k).net.edges.length ≤ 1000 := by
    intro k hk
    rw [hT, hLs]
    have : k = 0 ∨ k = 1 := by omega
    rcases this with rfl | rfl
    · exact ⟨Src.app hG1.src, by show (netOf l).edges.length ≤ 1000; omega⟩
    · exact ⟨hG2.src, by show x.edges.length ≤ 1000; omega⟩
  refine WX.loop (fun k : Nat => [(9, Row b25 0 2 2), (10, I (k : Int))]) (fun _ => (b25, ⟨4, false, flat encN Ls⟩) :: T) (fun k => k ≤ 2) (fun k => 2 - k) 0 (by omega) ?_ (fun k hk => ?_)
  · rw [hLs, hT]
    exact (fun s hs => hs.tl [0] 3)
  refine WX.seq ?_
  refine WX.seq ?_
  refine WX.region rfl ?_
  refine WXL.move Met.none rfl ?_
  refine WXL.bin Met.none rfl rfl rfl ?_
  refine WXL.nil ?_
  refine Fin.then_normal ?_
  refine WX.cond rfl (fun hc0 => ?_) (fun hc0 => ?_)
  · try simp only [cnd] at hc0
    refine WX.skip ?_
    refine Fin.then_normal ?_
    refine WX.seq ?_
    refine WX.block ?_
    refine WX.seq ?_
    refine WX.seq ?_
    obtain ⟨hEk, hlk⟩ := hE k (by omega)
    refine WX.region rfl ?_
    refine WXL.move Met.none rfl ?_
    refine WXL.move Met.none rfl ?_
    first | refine WXL.ix Met.none rfl rfl elem29 sz25 ?_ | refine WXL.ixS Met.none rfl rfl elem29 sz25 ?_
    first | refine WXL.ldN Met.none rfl agg25 sz25 ?_ (hv := (cellsAt_flat encN_len Ls k (by omega))) | refine WXL.ldNS Met.none rfl agg25 sz25 ?_ (hv := (cellsAt_flat encN_len Ls k (by omega)))
    refine WXL.cl (O1 := _) Met.none rfl (fnOk_of Try.func14 (by decide +kernel)) rfl (fun _ h => h) (refValid_ok _ (nth Ls k).net (nth Ls k).a (nth Ls k).c src_ (by omega)) (fun v O' hp => ?_)
    obtain ⟨e0, rfl, hw0, rfl⟩ := hp
    refine WXL.bin Met.none rfl rfl rfl ?_
    refine WXL.move Met.none rfl ?_
    refine WXL.split (d := 36) rfl (fun hg36 => ?_) (fun hg36 => ?_)
    · try simp only [cnd] at hg36
      refine WXL.miss (j := 6) (d := 36) rfl rfl rfl ?_
      refine WXL.miss (j := 6) (d := 36) rfl rfl rfl ?_
      refine WXL.miss (j := 6) (d := 36) rfl rfl rfl ?_
      refine WXL.miss (j := 6) (d := 36) rfl rfl rfl ?_
      refine WXL.miss (j := 6) (d := 36) rfl rfl rfl ?_
      refine WXL.miss (j := 6) (d := 36) rfl rfl rfl ?_
      refine WXL.pick_t Met.none rfl rfl ?_
      refine WXL.nil ?_
      refine Fin.then_normal ?_
      refine WX.cond rfl (fun hc1 => ?_) (fun hc1 => nomatch hc1)
      refine WX.exit ?_
      refine Fin.then_exit ?_
      refine Fin.block_hit rfl ?_
      refine Fin.then_normal ?_
      refine WX.region rfl ?_
      refine WXL.move Met.none rfl ?_
      refine WXL.bin Met.none rfl rfl bvA ?_
      refine WXL.assign Met.none rfl ?_
      refine WXL.nil ?_
      first
      | exact Fin.loop_next (k + 1) (by omega) (by omega) (fun s hs => hs.tl [0] 1)
      | exact Fin.loop_next (k + 1) (by omega) (by omega) (fun s hs => St.mid (G := [_]) (A := G3) (St.mid (G := [_]) (A := G4) (St.mid (G := [_]) (A := G5) (hs.told (L' := [(9, Row b25 0 2 2), (10, I ((k + 1 : Nat) : Int))]) ⟨eq_, eq_, trivial⟩ [0] 1 (by decide) (by decide) rfl))))
    · try simp only [cnd] at hg36
      refine WXL.move (Met.some rfl rfl rfl) rfl ?_
      refine WXL.move (Met.some rfl rfl rfl) rfl ?_
      first | refine WXL.ix (Met.some rfl rfl rfl) rfl rfl elem29 sz25 ?_ | refine WXL.ixS (Met.some rfl rfl rfl) rfl rfl elem29 sz25 ?_
      first | refine WXL.fieldAddr (Met.some rfl rfl rfl) rfl Try.underlying25 rfl sz3 rfl ?_ | refine WXL.faS (Met.some rfl rfl rfl) rfl Try.underlying25 rfl sz3 ?_
      refine WXL.load1 lz_ (Met.some rfl rfl rfl) rfl at_ agg3 (cell_flatN Ls k 0 (by omega) rfl) ?_
      refine WXL.bin (Met.some rfl rfl rfl) rfl rfl rfl ?_
      refine WXL.pick_f Met.none rfl rfl ?_
      refine WXL.nil ?_
      refine Fin.then_normal ?_
      refine WX.cond rfl (fun hc1 => ?_) (fun hc1 => ?_)
      · try simp only [cnd] at hc1
        refine WX.exit ?_
        refine Fin.then_exit ?_
        refine Fin.block_hit rfl ?_
        refine Fin.then_normal ?_
        refine WX.region rfl ?_
        refine WXL.move Met.none rfl ?_
        refine WXL.bin Met.none rfl rfl bvA ?_
        refine WXL.assign Met.none rfl ?_
        refine WXL.nil ?_
        first
        | exact Fin.loop_next (k + 1) (by omega) (by omega) (fun s hs => hs.tl [0] 1)
        | exact Fin.loop_next (k + 1) (by omega) (by omega) (fun s hs => St.mid (G := [_]) (A := G3) (St.mid (G := [_]) (A := G4) (St.mid (G := [_]) (A := G5) (hs.told (L' := [(9, Row b25 0 2 2), (10, I ((k + 1 : Nat) : Int))]) ⟨eq_, eq_, trivial⟩ [0] 1 (by decide) (by decide) rfl))))
      · try simp only [cnd] at hc1
        refine WX.skip ?_
        refine Fin.then_normal ?_
        refine WX.seq ?_
        have he0 : e0 = 0 := by omega
        subst he0
        have hn := hw0.sound
        refine WX.region rfl ?_
        refine WXL.move Met.none rfl ?_
        refine WXL.move Met.none rfl ?_
        first | refine WXL.ix Met.none rfl rfl elem29 sz25 ?_ | refine WXL.ixS Met.none rfl rfl elem29 sz25 ?_
        first | refine WXL.ldN Met.none rfl agg25 sz25 ?_ (hv := (cellsAt_flat encN_len Ls k (by omega))) | refine WXL.ldNS Met.none rfl agg25 sz25 ?_ (hv := (cellsAt_flat encN_len Ls k (by omega)))
        refine WXL.cl (O1 := _) Met.none rfl (fnOk_of Try.func16 (by decide +kernel)) rfl (fun _ h => h) (own_ok _ (nth Ls k).net (nth Ls k).a (nth Ls k).c src_ (by omega)) (fun v O' hp => ?_)
        obtain ⟨a3, c3, G3, rfl, hG3, rfl⟩ := hp
        refine WXL.cl (O1 := _) Met.none rfl (fnOk_of Try.func15 (by decide +kernel)) rfl (fun _ h => h) (max_ok _ (nth Ls k).net a3 c3 src_ (by omega)) (fun v O' hp => ?_)
        obtain ⟨e1, hw1, hm1, _⟩ := hp
        have he1 := hn.wrong hw1
        subst he1
        obtain ⟨r, a4, c4, G4, hr, hin, rfl, hG4, rfl⟩ := hm1 rfl
        refine WXL.of (fun s hs => St.swap (G := G4 ++ G3) [_] (by rw [List.append_assoc]; exact hs)) ?_
        rw [List.append_assoc]
        refine WXL.move Met.none rfl ?_
        refine WXL.extract Met.none rfl rfl ?_
        refine WXL.extract Met.none rfl rfl ?_
        refine WXL.extract Met.none rfl rfl ?_
        refine WXL.assign Met.none rfl ?_
        refine WXL.assign Met.none rfl ?_
        refine WXL.assign Met.none rfl ?_
        refine WXL.nil ?_
        refine Fin.then_normal ?_
        refine WX.seq ?_
        refine WX.region rfl ?_
        refine WXL.move Met.none rfl ?_
        refine WXL.move Met.none rfl ?_
        first | refine WXL.ix Met.none rfl rfl elem29 sz25 ?_ | refine WXL.ixS Met.none rfl rfl elem29 sz25 ?_
        first | refine WXL.ldN Met.none rfl agg25 sz25 ?_ (hv := (cellsAt_flat encN_len Ls k (by omega))) | refine WXL.ldNS Met.none rfl agg25 sz25 ?_ (hv := (cellsAt_flat encN_len Ls k (by omega)))
        refine WXL.cl (O1 := _) Met.none rfl (fnOk_of Try.func17 (by decide +kernel)) rfl (fun _ h => h) (refMax_ok _ (nth Ls k).net (nth Ls k).a (nth Ls k).c hn src_) (fun v O' hp => ?_)
        obtain ⟨r', a5, c5, G5, hr', hin', rfl, hG5, rfl⟩ := hp
        have hre := hr.uniq hn hr'
        subst hre
        have hrl := hin.flow.len
        refine WXL.of (fun s hs => St.swap (G := G5) [_] hs) ?_
        refine WXL.move Met.none rfl ?_
        refine WXL.extract Met.none rfl rfl ?_
        refine WXL.extract Met.none rfl rfl ?_
        refine WXL.assign Met.none rfl ?_
        refine WXL.assign Met.none rfl ?_
        refine WXL.nil ?_
        refine Fin.then_normal ?_
        refine WX.seq ?_
        refine WX.region rfl ?_
        refine WXL.move Met.none rfl ?_
        refine WXL.bin Met.none rfl rfl rfl ?_
        refine WXL.move Met.none rfl ?_
        refine WXL.split (d := 64) rfl (fun hg64 => ?_) (fun hg64 => ?_)
        · try simp only [cnd] at hg64
          exact absurd hg64 (by simp) --end
        · try simp only [cnd] at hg64
          refine WXL.move (Met.some rfl rfl rfl) rfl ?_
          refine WXL.move (Met.some rfl rfl rfl) rfl ?_
          refine WXL.bin (Met.some rfl rfl rfl) rfl rfl rfl ?_
          refine WXL.pick_f Met.none rfl rfl ?_
          refine WXL.move Met.none rfl ?_
          refine WXL.split (d := 69) rfl (fun hg69 => ?_) (fun hg69 => ?_)
          · try simp only [cnd] at hg69
            exact absurd hg69 (by simp) --end
          · try simp only [cnd] at hg69
            refine WXL.move (Met.some rfl rfl rfl) rfl ?_
            refine WXL.move (Met.some rfl rfl rfl) rfl ?_
            refine WXL.cl (O1 := _) (Met.some rfl rfl rfl) rfl (fnOk_of Try.func18 (by decide +kernel)) rfl (fun _ h => h) (same_ok _ r.2 r.2 a4 a5 c4 c5 (by unfold Short; omega) src_ src_) (fun v O' hp => ?_)
            obtain ⟨rfl, hO⟩ := hp
            subst O'
            refine WXL.not (Met.some rfl rfl rfl) rfl ?_
            refine WXL.pick_f Met.none rfl rfl ?_
            refine WXL.nil ?_
            refine Fin.then_normal ?_
            refine WX.cond rfl (fun hc2 => ?_) (fun hc2 => ?_)
            · try simp only [cnd] at hc2
              exact absurd hc2 (by simp) --end
            · try simp only [cnd] at hc2
              refine WX.skip ?_
              refine Fin.block_normal ?_
              refine Fin.then_normal ?_
              refine WX.region rfl ?_
              refine WXL.move Met.none rfl ?_
              refine WXL.bin Met.none rfl rfl bvA ?_
              refine WXL.assign Met.none rfl ?_
              refine WXL.nil ?_
              first
              | exact Fin.loop_next (k + 1) (by omega) (by omega) (fun s hs => hs.tl [0] 1)
              | exact Fin.loop_next (k + 1) (by omega) (by omega) (fun s hs => St.mid (G := [_]) (A := G3) (St.mid (G := [_]) (A := G4) (St.mid (G := [_]) (A := G5) (hs.told (L' := [(9, Row b25 0 2 2), (10, I ((k + 1 : Nat) : Int))]) ⟨eq_, eq_, trivial⟩ [0] 1 (by decide) (by decide) rfl))))
  · try simp only [cnd] at hc0
    refine WX.exit ?_
    refine Fin.then_exit ?_
    refine Fin.loop_exit ?_
    refine Fin.block_hit rfl ?_
    refine Fin.then_normal ?_
    refine WX.seq ?_
    refine WX.region rfl ?_
    refine WXL.cl (O1 := _) Met.none rfl (fnOk_of Try.func19 (by decide +kernel)) rfl (fun _ h => h) (lives_ok _) (fun v O' hp => ?_)
    obtain ⟨rfl, hO⟩ := hp
    subst O'
    refine WXL.assign Met.none rfl ?_
    refine WXL.nil ?_
    refine Fin.then_normal ?_
    refine WX.ret ?_
    exact Fin.result (O' := []) (.inr rfl) rfl rfl (fun _ hs => Sat.nil hs.wf) rfl

end Go.Proofs.Ytjmklialkjncaaa.Eng
