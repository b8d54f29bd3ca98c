/- The program's maximum, walked. Own work; no condition. -/
import Derived.Test.YtjmklialkjncaaaFlV
set_option linter.unusedVariables false
set_option linter.unusedSimpArgs false
namespace Go.Proofs.Ytjmklialkjncaaa.Eng

theorem Src.whole {O : Objs} {b sz n c : Nat} {cs : List Value} (h : Knows O b ⟨sz, false, cs⟩) (hl : cs.length = n * sz) : Src O sz (Row b 0 n c) n cs :=
  Src.of h (by show 0 + n * sz ≤ cs.length; omega) (by show (cs.drop 0).take (n * sz) = cs; rw [List.drop_zero, List.take_of_length_le (by omega)])

theorem ArcRows.src {n : Net4} {k : Nat} {A : Nat → Option Addr} {C : Nat → Nat} {Gs : List Objs} (h : ArcRows n k A C Gs) (R : Objs) {u : Nat} (hu : u < n.nodes.toNat) :
    Src (Gs.flatten ++ R) 3 (.slice (A u) (arcsTo n k u).length (C u)) (arcsTo n k u).length (flat encA (arcsTo n k u)) := by
  rw [flatten_at (by rw [h.len]; exact hu)]
  exact Src.app (h.row u hu).src

theorem Grow.some {sz b n c : Nat} {cs : List Value} {G : Objs} (h : Grow sz (some ⟨b, 0, none⟩) n c cs G) : G = [(b, ⟨sz, false, cs⟩)] ∧ cs.length = n * sz := by
  rcases h with ⟨h, _⟩ | ⟨b', h1, h2, h3⟩
  · cases h
  · simp only [Option.some.injEq, Addr.mk.injEq, and_true] at h1
    subst h1
    exact ⟨h2, h3⟩

theorem by_at {n : Net4} {S : BS} {v : Int} {i : Nat} (hv : 0 ≤ v) (hl : v.toNat < S.by_.length) (hi : nth S.by_ v.toNat = i) :
    nth (byL n S) v.toNat = ⟨i, v, decide ((nth n.edges i).b = v)⟩ ∧ nth (fromL n S) v.toNat = otherR (nth n.edges i) v := by
  have hto : ((v.toNat : Nat) : Int) = v := Int.toNat_of_nonneg hv
  constructor
  · have := nth_genOf (byF n) hl
    rw [hi] at this
    refine this.trans ?_
    unfold byF
    rw [if_pos (by omega), Int.toNat_natCast, hto]
  · have := nth_genOf (fromF n) hl
    rw [hi] at this
    refine this.trans ?_
    unfold fromF
    rw [if_pos (by omega), Int.toNat_natCast, hto]

theorem rest_by {n : Net4} (hn : Sound n) {f : List Int} {i : Nat} {v : Int} (hi : i < n.edges.length) (hv : (nth n.edges i).a = v ∨ (nth n.edges i).b = v) :
    restP n f ⟨i, v, decide ((nth n.edges i).b = v)⟩ = restOn n f (i, v) := by
  rw [restOn_eq hn hi hv]
  unfold restP
  by_cases hb : (nth n.edges i).b = v
  · simp only [hb, decide_true, if_true]
  · simp only [hb, decide_false, Bool.false_eq_true, if_false]

theorem push_by {n : Net4} {f : List Int} {i : Nat} {v d : Int} : pushP f ⟨i, v, decide ((nth n.edges i).b = v)⟩ d = changeR n f i v d := by
  unfold pushP changeR
  by_cases hb : (nth n.edges i).b = v
  · simp only [hb, decide_true, if_true]
  · simp only [hb, decide_false, Bool.false_eq_true, if_false]
    congr 1

theorem Sat.mid {h : AHeap} {G A R : Objs} (hs : Sat h (G ++ (A ++ R))) : Sat h (G ++ R) := hs.swap.app_right

def MaxOut (n : Net4) (O : Objs) (v : Value) (O' : Objs) : Prop := ∃ r a' c' G, MaxTo n (zeros n) 0 r ∧ MaxIn n r.2 r.1 ∧ v = .tuple #[I r.1, .slice a' r.2.length c', I 0] ∧ Grow 1 a' r.2.length c' (r.2.map I) G ∧ O' = G ++ O

theorem max_ok (O : Objs) (n : Net4) (a : Option Addr) (c : Nat) (hl : Edges O n a c) (hlen : n.edges.length ≤ 1000000) :
    Spec Try.prog false 15 #[netV n a c] O fun v O' => ∃ k, Wrong n k ∧ (k = 0 → MaxOut n O v O') ∧ (k ≠ 0 → v = .tuple #[I 0, .slice none 0 0, I k] ∧ O' = O) := by
  refine Spec.enter (args := [_]) (m := 89) Try.func15 rfl rfl (by decide +kernel) fun h0 => ?_
  refine WX.seq ?_
  refine WX.region rfl ?_
  refine WXL.box (c := [_, _, _, _]) Met.none rfl rfl rfl (fun b1 => ?_)
  refine WXL.assign Met.none rfl ?_
  refine WXL.assign Met.none rfl ?_
  refine WXL.assign Met.none rfl ?_
  refine WXL.nil ?_
  refine Fin.then_normal ?_
  refine WX.seq ?_
  refine WX.seq ?_
  refine WX.region rfl ?_
  refine WXL.ldN (vs := [_, _, _, _]) Met.none rfl agg36 sz36 ?_
  refine WXL.cl (O1 := _) Met.none rfl (fnOk_of Try.func34 (by decide +kernel)) rfl (fun _ h => h) (valid_ok _ n a c src_ hlen) (fun v O' hp => ?_)
  obtain ⟨k, rfl, hk, rfl⟩ := hp
  refine WXL.assign Met.none rfl ?_
  refine WXL.nil ?_
  refine Fin.then_normal ?_
  refine WX.seq ?_
  refine WX.region rfl ?_
  refine WXL.move Met.none rfl ?_
  refine WXL.bin Met.none rfl rfl rfl ?_
  refine WXL.nil ?_
  refine Fin.then_normal ?_
  refine WX.cond rfl (fun hc0 => ?_) (fun hc0 => ?_)
  · try simp only [cnd] at hc0
    refine WX.seq ?_
    refine WX.region rfl ?_
    refine WXL.move Met.none rfl ?_
    refine WXL.assign Met.none rfl ?_
    refine WXL.assign Met.none rfl ?_
    refine WXL.assign Met.none rfl ?_
    refine WXL.nil ?_
    refine Fin.then_normal ?_
    refine WX.ret ?_
    refine Fin.then_ret ?_
    first
    | exact Fin.result (O' := O) (.inr rfl) rfl rfl drop_ ⟨k, hk, fun e => absurd e hc0, fun _ => ⟨rfl, rfl⟩⟩
    | exact Fin.result (O' := [(b23, ⟨1, false, f.map I⟩)] ++ O) (.inr rfl) rfl rfl (fun _ hs => Sat.mid (G := [_]) (A := Gs.flatten) (Sat.told [3] 6 (by decide) (by decide) rfl hs)) ⟨0, hk, fun _ => ⟨(v, f), _, _, [_], hin.goal _ (.done hby), hin, rfl, .row (by simp), rfl⟩, fun e => absurd rfl e⟩
  · try simp only [cnd] at hc0
    refine WX.skip ?_
    refine Fin.then_normal ?_
    refine WX.seq ?_
    have hk0 : k = 0 := by omega
    subst hk0
    have hn := hk.sound
    have hnn := hn.nodes
    have hns := hn.source
    have hnk := hn.sink
    have hlen2 := hn.len
    refine WX.draw rfl ?_
    refine WXL.fieldAddr (off' := 3) Met.none rfl Try.underlying36 rfl sz34 rfl ?_
    first | refine WXL.ld Met.none rfl agg34 ?_ | refine WXL.ldS Met.none rfl agg34 ?_
    refine WXL.len Met.none rfl Try.underlying34 ?_
    refine WXL.makeSlice Met.none rfl rfl elem22 sz3 by3 zero3 (by omega) (by omega) (by omega) rfl (by decide) (by first | rw [Int.toNat_natCast] | exact rfl) (by first | exact zerosL_map I 0 _ | exact zerosL_map Value.bool false _ | exact rfl) (fun b23 => ?_)
    refine WXL.ldN (vs := [_, _, _, _]) Met.none rfl agg36 sz36 ?_
    refine WXL.cl (O1 := _) Met.none rfl (fnOk_of Try.func36 (by decide +kernel)) rfl (fun _ h => h) (arcs_q _ n a c hn src_) (fun v O' hp => ?_)
    obtain ⟨bA, cA, A, C, Gs, rfl, hR, rfl⟩ := hp
    refine WXL.of (fun s hs => St.swap (G := (bA, _) :: Gs.flatten) [_, _] hs) ?_
    refine WXL.assign Met.none rfl ?_
    refine WXL.assign Met.none rfl ?_
    refine WXL.assign Met.none rfl ?_
    refine WXL.nil ?_
    refine Fin.then_normal ?_
    refine WX.block ?_
    refine WX.loop (fun q : List Int × Int => [(1, Ptr b1 0), (6, Row b23 0 q.1.length n.edges.length), (7, Row bA 0 n.nodes.toNat cA), (8, I q.2)]) (fun q => (b23, ⟨1, false, q.1.map I⟩) :: (b1, ⟨0, false, [I n.nodes, I n.source, I n.sink, .slice a n.edges.length c]⟩) :: (bA, ⟨1, false, rowsV n n.edges.length A C⟩) :: (Gs.flatten ++ O)) (fun q => MaxIn n q.1 q.2) (fun q => (9007199254740993 - q.2).toNat) (List.replicate n.edges.length 0, 0) (MaxIn.start hn) (by simp only [List.length_replicate]; exact (fun s hs => hs.tl [0, 1] 2)) (fun q hq => ?_)
    obtain ⟨f, v⟩ := q
    have hin := hq
    simp only at hin
    dsimp only
    have hsl := search_len hn f true
    have hfl := hin.flow
    have hfe := hfl.len
    have hv0 := hin.pos
    have hvb := hin.bound hn
    refine WX.block ?_
    refine WX.seq ?_
    refine WX.region rfl ?_
    refine WXL.ldN (vs := [_, _, _, _]) Met.none rfl agg36 sz36 ?_
    refine WXL.move Met.none rfl ?_
    refine WXL.move Met.none rfl ?_
    refine WXL.cl (O1 := _) Met.none rfl (fnOk_of Try.func37 (by decide +kernel)) rfl (fun _ h => h) (search_ok _ n f true a _ _ c _ _ A C hn hfl src_ (Src.whole at_ (by rw [List.length_map]; omega)) (Src.whole at_ (by rw [rows_len]; omega)) (fun u hu => Src.cons (Src.cons (Src.cons (hR.src O hu))))) (fun v O' hp => ?_)
    obtain ⟨S, bB, bF, bS, hS, hSl, rfl, rfl⟩ := hp
    rw [hS] at hsl
    refine WXL.move Met.none rfl ?_
    refine WXL.extract Met.none rfl rfl ?_
    refine WXL.extract Met.none rfl rfl ?_
    refine WXL.extract Met.none rfl rfl ?_
    refine WXL.assign Met.none rfl ?_
    refine WXL.assign Met.none rfl ?_
    refine WXL.assign Met.none rfl ?_
    refine WXL.nil ?_
    refine Fin.then_normal ?_
    refine WX.seq ?_
    refine WX.seq ?_
    have hsL : (seenL S).length = S.by_.length := genOf_len _ _
    refine WX.region rfl ?_
    refine WXL.move Met.none rfl ?_
    refine WXL.fieldAddr (off' := 2) Met.none rfl Try.underlying36 rfl sz3 rfl ?_
    first | refine WXL.ld Met.none rfl agg3 ?_ | refine WXL.ldS Met.none rfl agg3 ?_
    first | refine WXL.ix Met.none rfl rfl elem46 sz4 ?_ | refine WXL.ixS Met.none rfl rfl elem46 sz4 ?_
    first | refine WXL.ld Met.none rfl agg4 ?_ | refine WXL.ldS Met.none rfl agg4 ?_
    refine WXL.not Met.none rfl ?_
    refine WXL.nil ?_
    refine Fin.then_normal ?_
    refine WX.cond rfl (fun hc1 => ?_) (fun hc1 => ?_)
    · try simp only [cnd] at hc1
      refine WX.seq ?_
      have hby : nth (searchR n f true) n.sink.toNat = -2 := by
        rw [hS]
        have := seen_nth (S := S) (v := n.sink.toNat) (by omega)
        rw [this] at hc1
        have h2 := of_decide_eq_false hc1
        omega
      refine WX.region rfl ?_
      refine WXL.move Met.none rfl ?_
      refine WXL.move Met.none rfl ?_
      refine WXL.assign Met.none rfl ?_
      refine WXL.assign Met.none rfl ?_
      refine WXL.assign Met.none rfl ?_
      refine WXL.nil ?_
      refine Fin.then_normal ?_
      refine WX.ret ?_
      refine Fin.then_ret ?_
      refine Fin.block_ret ?_
      refine Fin.loop_ret ?_
      refine Fin.block_ret ?_
      first
      | exact Fin.result (O' := O) (.inr rfl) rfl rfl drop_ ⟨k, hk, fun e => absurd e hc0, fun _ => ⟨rfl, rfl⟩⟩
      | exact Fin.result (O' := [(b23, ⟨1, false, f.map I⟩)] ++ O) (.inr rfl) rfl rfl (fun _ hs => Sat.mid (G := [_]) (A := Gs.flatten) (Sat.told [3] 6 (by decide) (by decide) rfl hs)) ⟨0, hk, fun _ => ⟨(v, f), _, _, [_], hin.goal _ (.done hby), hin, rfl, .row (by simp), rfl⟩, fun e => absurd rfl e⟩
    · try simp only [cnd] at hc1
      refine WX.skip ?_
      refine Fin.then_normal ?_
      refine WX.seq ?_
      have hby : nth (searchR n f true) n.sink.toNat ≠ -2 := by
        rw [hS]
        have := seen_nth (S := S) (v := n.sink.toNat) (by omega)
        rw [this] at hc1
        exact of_decide_eq_true hc1
      obtain ⟨p0, hW0⟩ := search_way hn hby
      have hm := minW_le hn hfl hW0
      have hstep := hin.step hn hW0
      have hsb := hstep.bound hn
      obtain ⟨i0, p0', hp0, hi0, hie0, hW0'⟩ := hW0.uncons (fun e => hn.ne e.symm)
      rw [hS] at hi0
      have hb0 := (by_at (n := n) hnk.1 (by omega) hi0).1
      have hed0 := hW0.edges (i0, n.sink) (by rw [hp0]; exact List.mem_cons_self ..)
      have hr0 := rest_by hn (f := f) hie0 hed0.2.2.1
      have hin0 := hfl.in64 hn hie0
      have hyl : (byL n S).length = S.by_.length := genOf_len _ _
      have hfrl : (fromL n S).length = S.by_.length := genOf_len _ _
      refine WX.draw rfl ?_
      refine WXL.ldN (vs := [_, _, _, _]) Met.none rfl agg36 sz36 ?_
      refine WXL.move Met.none rfl ?_
      refine WXL.move Met.none rfl ?_
      refine WXL.fieldAddr (off' := 2) Met.none rfl Try.underlying36 rfl sz3 rfl ?_
      first | refine WXL.ld Met.none rfl agg3 ?_ | refine WXL.ldS Met.none rfl agg3 ?_
      first | refine WXL.ix Met.none rfl rfl elem74 sz79 ?_ | refine WXL.ixS Met.none rfl rfl elem74 sz79 ?_
      first | refine WXL.ldN Met.none rfl agg79 sz79 ?_ (hv := (cellsAt_flat encA_len (byL n S) n.sink.toNat (by omega))) | refine WXL.ldNS Met.none rfl agg79 sz79 ?_ (hv := (cellsAt_flat encA_len (byL n S) n.sink.toNat (by omega)))
      rw [hb0]
      refine WXL.cl (O1 := _) Met.none rfl (fnOk_of Try.func38 (by decide +kernel)) rfl (fun _ h => h) (rest_ok _ n f ⟨i0, n.sink, decide ((nth n.edges i0).b = n.sink)⟩ a _ c _ src_ (Src.whole at_ (by rw [List.length_map]; omega)) hfe (by simp only; omega) (fun _ => hin0.1) (fun _ => hin0.2)) (fun v O' hp => ?_)
      obtain ⟨rfl, hO⟩ := hp
      subst O'
      rw [hr0]
      refine WXL.assign Met.none rfl ?_
      refine WXL.nil ?_
      refine Fin.then_normal ?_
      refine WX.seq ?_
      refine WX.seq ?_
      refine WX.region rfl ?_
      refine WXL.fieldAddr (off' := 2) Met.none rfl Try.underlying36 rfl sz3 rfl ?_
      first | refine WXL.ld Met.none rfl agg3 ?_ | refine WXL.ldS Met.none rfl agg3 ?_
      refine WXL.assign Met.none rfl ?_
      refine WXL.nil ?_
      refine Fin.then_normal ?_
      refine WX.block ?_
      refine WX.loop (fun q : List (Nat × Int) × Int × Int => [(1, Ptr b1 0), (6, Row b23 0 f.length n.edges.length), (7, Row bA 0 n.nodes.toNat cA), (8, I v), (9, Row bB 0 n.nodes.toNat n.nodes.toNat), (10, Row bF 0 n.nodes.toNat n.nodes.toNat), (12, I q.2.1), (13, I q.2.2)]) (fun q => (bS, ⟨1, false, (seenL S).map .bool⟩) :: (bF, ⟨1, false, (fromL n S).map I⟩) :: (bB, ⟨3, false, flat encA (byL n S)⟩) :: (b23, ⟨1, false, f.map I⟩) :: (b1, ⟨0, false, [I n.nodes, I n.source, I n.sink, .slice a n.edges.length c]⟩) :: (bA, ⟨1, false, rowsV n n.edges.length A C⟩) :: (Gs.flatten ++ O)) (fun q => Way n f (searchR n f true) q.2.2 q.1 ∧ leastW n f q.2.1 q.1 = minW n f p0) (fun q => q.1.length) (p0, restOn n f (i0, n.sink), n.sink) ⟨hW0, by rw [hp0]; rfl⟩ (fun s hs => hs.tl [0, 1, 2, 3, 4, 5] 6) (fun q hq => ?_)
      obtain ⟨p, x, w⟩ := q
      obtain ⟨hW, hlr⟩ := hq
      simp only at hW hlr
      dsimp only
      have hwi := hW.inside hn
      refine WX.seq ?_
      refine WX.seq ?_
      refine WX.region rfl ?_
      refine WXL.move Met.none rfl ?_
      refine WXL.fieldAddr (off' := 1) Met.none rfl Try.underlying36 rfl sz3 rfl ?_
      first | refine WXL.ld Met.none rfl agg3 ?_ | refine WXL.ldS Met.none rfl agg3 ?_
      refine WXL.bin Met.none rfl rfl rfl ?_
      refine WXL.nil ?_
      refine Fin.then_normal ?_
      refine WX.cond rfl (fun hc2 => ?_) (fun hc2 => ?_)
      · try simp only [cnd] at hc2
        refine WX.skip ?_
        refine Fin.then_normal ?_
        refine WX.seq ?_
        refine WX.block ?_
        obtain ⟨i, p', rfl, hi, hie, hW'⟩ := hW.uncons hc2
        rw [hS] at hi
        have hb := by_at (n := n) hwi.1 (by omega) hi
        have hed := hW.edges _ (List.mem_cons_self ..)
        have hr := rest_by hn (f := f) hie hed.2.2.1
        have hin64 := hfl.in64 hn hie
        refine WX.draw rfl ?_
        refine WXL.move Met.none rfl ?_
        refine WXL.ldN (vs := [_, _, _, _]) Met.none rfl agg36 sz36 ?_
        refine WXL.move Met.none rfl ?_
        refine WXL.move Met.none rfl ?_
        refine WXL.move Met.none rfl ?_
        first | refine WXL.ix Met.none rfl rfl elem74 sz79 ?_ | refine WXL.ixS Met.none rfl rfl elem74 sz79 ?_
        first | refine WXL.ldN Met.none rfl agg79 sz79 ?_ (hv := (cellsAt_flat encA_len (byL n S) w.toNat (by omega))) | refine WXL.ldNS Met.none rfl agg79 sz79 ?_ (hv := (cellsAt_flat encA_len (byL n S) w.toNat (by omega)))
        rw [hb.1]
        refine WXL.cl (O1 := _) Met.none rfl (fnOk_of Try.func38 (by decide +kernel)) rfl (fun _ h => h) (rest_ok _ n f ⟨i, w, decide ((nth n.edges i).b = w)⟩ a _ c _ src_ (Src.whole at_ (by rw [List.length_map]; omega)) hfe (by simp only; omega) (fun _ => hin64.1) (fun _ => hin64.2)) (fun v O' hp => ?_)
        obtain ⟨rfl, hO⟩ := hp
        subst O'
        rw [hr]
        refine WXL.min Met.none rfl rfl ?_
        refine WXL.assign Met.none rfl ?_
        refine WXL.nil ?_
        refine Fin.block_normal ?_
        refine Fin.then_normal ?_
        refine WX.region rfl ?_
        refine WXL.move Met.none rfl ?_
        refine WXL.move Met.none rfl ?_
        first | refine WXL.ix Met.none rfl rfl elem22 sz3 ?_ | refine WXL.ixS Met.none rfl rfl elem22 sz3 ?_
        first | refine WXL.ld Met.none rfl agg3 ?_ | refine WXL.ldS Met.none rfl agg3 ?_
        rw [hb.2]
        refine WXL.assign Met.none rfl ?_
        refine WXL.nil ?_
        exact Fin.loop_next (p', min x (restOn n f (i, w)), otherR (nth n.edges i) w) ⟨hW', hlr⟩ (by simp) (fun s hs => hs.tl [0, 1, 2, 3, 4, 5] 6)
      · try simp only [cnd] at hc2
        refine WX.exit ?_
        refine Fin.then_exit ?_
        refine Fin.loop_exit ?_
        refine Fin.block_hit rfl ?_
        refine Fin.then_normal ?_
        refine WX.seq ?_
        refine WX.seq ?_
        have hpn := hW.nil_of hc2
        subst hpn
        have hx : x = minW n f p0 := hlr
        subst hx
        refine WX.region rfl ?_
        refine WXL.fieldAddr (off' := 2) Met.none rfl Try.underlying36 rfl sz3 rfl ?_
        first | refine WXL.ld Met.none rfl agg3 ?_ | refine WXL.ldS Met.none rfl agg3 ?_
        refine WXL.assign Met.none rfl ?_
        refine WXL.nil ?_
        refine Fin.then_normal ?_
        refine WX.block ?_
        refine WX.loop (fun q : List (Nat × Int) × List Int × Int => [(1, Ptr b1 0), (6, Row b23 0 q.2.1.length n.edges.length), (7, Row bA 0 n.nodes.toNat cA), (8, I v), (9, Row bB 0 n.nodes.toNat n.nodes.toNat), (10, Row bF 0 n.nodes.toNat n.nodes.toNat), (12, I (minW n f p0)), (14, I q.2.2)]) (fun q => (b23, ⟨1, false, q.2.1.map I⟩) :: (bS, ⟨1, false, (seenL S).map .bool⟩) :: (bF, ⟨1, false, (fromL n S).map I⟩) :: (bB, ⟨3, false, flat encA (byL n S)⟩) :: (b1, ⟨0, false, [I n.nodes, I n.source, I n.sink, .slice a n.edges.length c]⟩) :: (bA, ⟨1, false, rowsV n n.edges.length A C⟩) :: (Gs.flatten ++ O)) (fun q => Chg n f (minW n f p0) p0 q.2.2 q.1 q.2.1) (fun q => q.1.length) (p0, f, n.sink) (Chg.start hn hW0) (fun s hs => hs.tl [3, 0, 1, 2, 4, 5] 6) (fun q hq => ?_)
        obtain ⟨p, f', w2⟩ := q
        have hC := hq
        simp only at hC
        dsimp only
        have hwi2 := hC.way.inside hn
        have hcl := hC.len
        refine WX.seq ?_
        refine WX.seq ?_
        refine WX.region rfl ?_
        refine WXL.move Met.none rfl ?_
        refine WXL.fieldAddr (off' := 1) Met.none rfl Try.underlying36 rfl sz3 rfl ?_
        first | refine WXL.ld Met.none rfl agg3 ?_ | refine WXL.ldS Met.none rfl agg3 ?_
        refine WXL.bin Met.none rfl rfl rfl ?_
        refine WXL.nil ?_
        refine Fin.then_normal ?_
        refine WX.cond rfl (fun hc3 => ?_) (fun hc3 => ?_)
        · try simp only [cnd] at hc3
          refine WX.skip ?_
          refine Fin.then_normal ?_
          refine WX.seq ?_
          refine WX.block ?_
          obtain ⟨i, p', rfl, hi, hie, hW'⟩ := hC.way.uncons hc3
          rw [hS] at hi
          have hb := by_at (n := n) hwi2.1 (by omega) hi
          have hin64 := hC.in64 hn hfl hm.1
          have hpd : In64 (nth f' i + if (decide ((nth n.edges i).b = w2)) = true then minW n f p0 else -(minW n f p0)) := by
            by_cases hbb : (nth n.edges i).b = w2
            · rw [if_pos (decide_eq_true hbb)]
              exact hin64.1 hbb
            · rw [if_neg (by rw [decide_eq_false hbb]; decide)]
              exact hin64.2.1 hbb
          refine WX.region rfl ?_
          refine WXL.move Met.none rfl ?_
          refine WXL.move Met.none rfl ?_
          refine WXL.move Met.none rfl ?_
          first | refine WXL.ix Met.none rfl rfl elem74 sz79 ?_ | refine WXL.ixS Met.none rfl rfl elem74 sz79 ?_
          first | refine WXL.ldN Met.none rfl agg79 sz79 ?_ (hv := (cellsAt_flat encA_len (byL n S) w2.toNat (by omega))) | refine WXL.ldNS Met.none rfl agg79 sz79 ?_ (hv := (cellsAt_flat encA_len (byL n S) w2.toNat (by omega)))
          rw [hb.1]
          refine WXL.move Met.none rfl ?_
          refine WXL.cl (O1 := _) Met.none rfl (fnOk_of Try.func39 (by decide +kernel)) rfl (fun _ h => h) (push_ok _ [_] f' ⟨i, w2, decide ((nth n.edges i).b = w2)⟩ (minW n f p0) _ _ (.row (by simp)) (by simp only; omega) (by omega) hpd) (fun v O' hp => ?_)
          obtain ⟨G9, hG9, rfl⟩ := hp
          obtain ⟨rfl, _⟩ := hG9.some; rw [push_by]
          refine WXL.nil ?_
          refine Fin.block_normal ?_
          refine Fin.then_normal ?_
          refine WX.region rfl ?_
          refine WXL.move Met.none rfl ?_
          refine WXL.move Met.none rfl ?_
          first | refine WXL.ix Met.none rfl rfl elem22 sz3 ?_ | refine WXL.ixS Met.none rfl rfl elem22 sz3 ?_
          first | refine WXL.ld Met.none rfl agg3 ?_ | refine WXL.ldS Met.none rfl agg3 ?_
          rw [hb.2]
          refine WXL.assign Met.none rfl ?_
          refine WXL.nil ?_
          exact Fin.loop_next (p', changeR n f' i w2 (minW n f p0), otherR (nth n.edges i) w2) (hC.next hfe hW') (by simp) (by simp only [changeR_length]; exact (fun s hs => hs.tl [0, 1, 2, 3, 4, 5] 6))
        · try simp only [cnd] at hc3
          refine WX.exit ?_
          refine Fin.then_exit ?_
          refine Fin.loop_exit ?_
          refine Fin.block_hit rfl ?_
          refine Fin.then_normal ?_
          have hpn := hC.way.nil_of hc3
          subst hpn
          have hlast := hC.last
          subst hlast
          refine WX.region rfl ?_
          refine WXL.move Met.none rfl ?_
          refine WXL.move Met.none rfl ?_
          refine WXL.bin Met.none rfl rfl bvA ?_
          refine WXL.assign Met.none rfl ?_
          refine WXL.nil ?_
          refine Fin.block_normal ?_
          exact Fin.loop_next (_, v + minW n f p0) hstep (by simp only; omega) (fun s hs => hs.tl [0, 4, 5] 6)

end Go.Proofs.Ytjmklialkjncaaa.Eng
