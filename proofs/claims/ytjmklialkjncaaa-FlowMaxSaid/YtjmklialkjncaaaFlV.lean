/- What a round of the maxima keeps; the reference's maximum, walked. Own work; no condition. -/
import Derived.Test.YtjmklialkjncaaaFlU
set_option linter.unusedVariables false
set_option linter.unusedSimpArgs false
namespace Go.Proofs.Ytjmklialkjncaaa.Eng

structure MaxIn (n : Net4) (f : List Int) (v : Int) : Prop where
  flow : Flow n f
  val : v = netOut n f n.source
  pos : 0 ≤ v
  goal : ∀ r, MaxTo n f v r → MaxTo n (List.replicate n.edges.length 0) 0 r

theorem nth_replicate {α : Type} [Inhabited α] {m i : Nat} {a : α} (h : i < m) : nth (List.replicate m a) i = a := by
  rw [nth_get (by simpa using h)]; simp

theorem sumTo_zero {g : Nat → Int} : ∀ {m : Nat}, (∀ i, i < m → g i = 0) → sumTo g m = 0
  | 0, _ => rfl
  | m + 1, h => by
    show sumTo g m + g m = 0
    rw [sumTo_zero fun i hi => h i (Nat.lt_succ_of_lt hi), h m (Nat.lt_succ_self m)]; rfl

theorem MaxIn.start {n : Net4} (hn : Sound n) : MaxIn n (List.replicate n.edges.length 0) 0 := by
  refine ⟨⟨by simp, fun i hi => ?_⟩, ?_, Int.le_refl _, fun r h => h⟩
  · have := hn.at hi
    rw [nth_replicate hi]
    omega
  · unfold netOut
    rw [sumTo_zero]
    intro i hi
    unfold leaves
    rw [nth_replicate hi]
    split <;> split <;> rfl

theorem MaxIn.step {n : Net4} (hn : Sound n) {f : List Int} {v : Int} {p : List (Nat × Int)} (h : MaxIn n f v) (hw : Way n f (searchR n f true) n.sink p) : MaxIn n (changeW n (minW n f p) p f) (v + minW n f p) := by
  obtain ⟨m1, m2⟩ := hw.min hn
  refine ⟨h.flow.change hn hw (by omega) m2, ?_, by have := h.pos; omega, fun r hr => h.goal r (.more hw hr)⟩
  rw [hw.netOut hn n.source f h.flow.len, if_pos rfl, if_neg (fun e => hn.ne e.symm), h.val]
  omega

theorem MaxIn.bound {n : Net4} (hn : Sound n) {f : List Int} {v : Int} (h : MaxIn n f v) : v ≤ 9007199254740992 := by
  have h1 := netOut_bound hn h.flow n.source
  have := hn.len
  rw [h.val]
  omega

theorem search_way {n : Net4} (hn : Sound n) {f : List Int} (h : nth (searchR n f true) n.sink.toNat ≠ -2) : ∃ p, Way n f (searchR n f true) n.sink p := by
  obtain ⟨S, e, hS⟩ := search_ways hn f true
  rw [e] at h ⊢
  exact hS.way _ (hS.seen _ hn.sink.1 hn.sink.2 h)

theorem search_len {n : Net4} (hn : Sound n) (f : List Int) (stop : Bool) : (searchR n f stop).length = n.nodes.toNat := by
  obtain ⟨S, e, hS⟩ := search_ways hn f stop
  have := hS.good.len
  rw [e]
  omega

theorem Way.uncons {n : Net4} {f l : List Int} {v : Int} {p : List (Nat × Int)} (h : Way n f l v p) (hv : v ≠ n.source) :
    ∃ (i : Nat) (p' : List (Nat × Int)), p = (i, v) :: p' ∧ nth l v.toNat = i ∧ i < n.edges.length ∧ Way n f l (otherR (nth n.edges i) v) p' := by
  cases h with
  | root => exact absurd rfl hv
  | step h1 h2 h3 h4 h5 h6 h7 h8 hw => exact ⟨_, _, rfl, h3, h4, hw⟩

theorem Way.nil_of {n : Net4} {f l : List Int} {v : Int} {p : List (Nat × Int)} (h : Way n f l v p) (hv : v = n.source) : p = [] := by
  cases h with
  | root => rfl
  | step h1 h2 h3 h4 h5 h6 h7 h8 hw => exact absurd hv h8

/-- The reference's least so far, and the rest of the way. -/
def lrW (n : Net4) (f : List Int) (x : Int) (p : List (Nat × Int)) : Int := if x < 0 then minW n f p else leastW n f x p

theorem leastW_cons {n : Net4} {f : List Int} {x : Int} {q : Nat × Int} {p : List (Nat × Int)} : leastW n f x (q :: p) = leastW n f (min x (restOn n f q)) p := rfl

theorem lr_step1 {n : Net4} {f : List Int} {x : Int} {q : Nat × Int} {p : List (Nat × Int)} (hr : 0 < restOn n f q) (h : x < 0 ∨ restOn n f q < x) : lrW n f x (q :: p) = lrW n f (restOn n f q) p := by
  unfold lrW
  rw [if_neg (show ¬ restOn n f q < 0 by omega)]
  by_cases hx : x < 0
  · rw [if_pos hx]
    show leastW n f (restOn n f q) (q :: p) = _
    rw [leastW_cons, Int.min_self]
  · rw [if_neg hx, leastW_cons, show min x (restOn n f q) = restOn n f q by omega]

theorem lr_step2 {n : Net4} {f : List Int} {x : Int} {q : Nat × Int} {p : List (Nat × Int)} (h1 : ¬ x < 0) (h2 : ¬ restOn n f q < x) : lrW n f x (q :: p) = lrW n f x p := by
  unfold lrW
  rw [if_neg h1, if_neg h1, leastW_cons, show min x (restOn n f q) = x by omega]

theorem lr_end {n : Net4} {f : List Int} {x d : Int} (h : lrW n f x [] = d) (hd : 0 < d) : x = d := by
  unfold lrW at h
  split at h
  · have : minW n f [] = 0 := rfl
    omega
  · exact h

theorem changeR_length (n : Net4) (f : List Int) (i : Nat) (to d : Int) : (changeR n f i to d).length = f.length := by unfold changeR; rw [List.length_set]

/-- How far the changes along a way have come. -/
structure Chg (n : Net4) (f : List Int) (d : Int) (p0 : List (Nat × Int)) (v : Int) (p : List (Nat × Int)) (f' : List Int) : Prop where
  way : Way n f (searchR n f true) v p
  len : f'.length = f.length
  goal : changeW n d p f' = changeW n d p0 f
  same : ∀ q ∈ p, nth f' q.1 = nth f q.1
  le : ∀ q ∈ p, d ≤ restOn n f q

theorem Chg.start {n : Net4} {f : List Int} {p : List (Nat × Int)} (hn : Sound n) (h : Way n f (searchR n f true) n.sink p) : Chg n f (minW n f p) p n.sink p f :=
  ⟨h, rfl, rfl, fun _ _ => rfl, (h.min hn).2⟩

theorem Chg.next {n : Net4} {f f' : List Int} {d v : Int} {p0 p : List (Nat × Int)} {i : Nat} (hf : f.length = n.edges.length) (h : Chg n f d p0 v ((i, v) :: p) f') (hw : Way n f (searchR n f true) (otherR (nth n.edges i) v) p) :
    Chg n f d p0 (otherR (nth n.edges i) v) p (changeR n f' i v d) := by
  have hnd := h.way.nodup
  rw [List.map_cons, List.nodup_cons] at hnd
  refine ⟨hw, by rw [changeR_length, h.len], h.goal, fun q hq => ?_, fun q hq => h.le q (List.mem_cons_of_mem _ hq)⟩
  rw [← h.same q (List.mem_cons_of_mem _ hq)]
  have hq1 := (hw.edges q hq).1
  have hi := (h.way.edges _ (List.mem_cons_self ..)).1
  unfold changeR
  rw [nth_set (by have := h.len; simp only at hi; omega) (by have := h.len; omega), if_neg]
  intro e
  exact hnd.1 (List.mem_map.2 ⟨q, hq, e.symm⟩)

theorem Chg.in64 {n : Net4} (hn : Sound n) {f f' : List Int} (hf : Flow n f) {d v : Int} {p0 p : List (Nat × Int)} {i : Nat} (hd : 0 < d) (h : Chg n f d p0 v ((i, v) :: p) f') :
    ((nth n.edges i).b = v → In64 (nth f' i + d)) ∧ ((nth n.edges i).b ≠ v → In64 (nth f' i - d)) ∧ d ≤ 4398046511104 := by
  obtain ⟨e1, e2, e3, _⟩ := h.way.edges _ (List.mem_cons_self ..)
  have e4 := h.same _ (List.mem_cons_self ..)
  have e5 := h.le _ (List.mem_cons_self ..)
  have hc := hf.cap i e1
  have he := hn.at (i := i) e1
  rw [restOn_eq hn e1 e3] at e5
  simp only at e4 e5
  rw [e4]
  unfold In64
  split at e5
  · rename_i hb
    exact ⟨fun _ => by omega, fun q => absurd hb q, by omega⟩
  · rename_i hb
    exact ⟨fun q => absurd q hb, fun _ => by omega, by omega⟩

theorem Chg.last {n : Net4} {f f' : List Int} {d v : Int} {p0 : List (Nat × Int)} (h : Chg n f d p0 v [] f') : f' = changeW n d p0 f := h.goal

theorem minW_le {n : Net4} (hn : Sound n) {f : List Int} (hf : Flow n f) {p : List (Nat × Int)} (h : Way n f (searchR n f true) n.sink p) : 0 < minW n f p ∧ minW n f p ≤ 4398046511104 := by
  obtain ⟨m1, m2⟩ := h.min hn
  refine ⟨m1, ?_⟩
  obtain ⟨i, p', rfl, _⟩ := h.uncons (fun e => hn.ne e.symm)
  exact (Chg.in64 hn hf m1 (Chg.start hn h)).2.2

theorem Sat.back {h : AHeap} {G A R : Objs} (hs : Sat h (A ++ (G ++ R))) : Sat h (G ++ (A ++ R)) := Sat.swap (G := A) (A := G) hs

def zeros (n : Net4) : List Int := List.replicate n.edges.length 0

theorem refMax_ok (O : Objs) (n : Net4) (a : Option Addr) (c : Nat) (hn : Sound n) (hl : Edges O n a c) :
    Spec Try.prog false 17 #[netV n a c] O fun v O' => ∃ r a' c' G, MaxTo n (zeros n) 0 r ∧ MaxIn n r.2 r.1 ∧ v = .tuple #[I r.1, .slice a' r.2.length c'] ∧ Grow 1 a' r.2.length c' (r.2.map I) G ∧ O' = G ++ O := by
  have hnn := hn.nodes
  have hns := hn.source
  have hnk := hn.sink
  have hlen := hn.len
  refine Spec.enter (args := [_]) (m := 118) Try.func17 rfl rfl (by decide +kernel) fun h0 => ?_
  refine WX.seq ?_
  refine WX.region rfl ?_
  refine WXL.box (c := [_, _, _, _]) Met.none rfl rfl rfl (fun b1 => ?_)
  refine WXL.assign Met.none rfl ?_
  refine WXL.assign Met.none rfl ?_
  refine WXL.nil ?_
  refine Fin.then_normal ?_
  refine WX.seq ?_
  refine WX.region rfl ?_
  refine WXL.assign Met.none rfl ?_
  refine WXL.nil ?_
  refine Fin.then_normal ?_
  refine WX.seq ?_
  refine WX.seq ?_
  refine WX.region rfl ?_
  refine WXL.assign Met.none rfl ?_
  refine WXL.nil ?_
  refine Fin.then_normal ?_
  refine WX.block ?_
  refine WX.loop (fun q : Nat × Option Addr × Nat × Objs => [(1, Ptr b1 0), (4, .slice q.2.1 q.1 q.2.2.1), (5, I (q.1 : Int))]) (fun q => (b1, ⟨0, false, [I n.nodes, I n.source, I n.sink, .slice a n.edges.length c]⟩) :: (q.2.2.2 ++ O)) (fun q => q.1 ≤ n.edges.length ∧ Grow 1 q.2.1 q.1 q.2.2.1 ((List.replicate q.1 0).map I) q.2.2.2) (fun q => n.edges.length - q.1) (0, none, 0, []) ⟨by omega, .nil⟩ (fun s hs => hs.tl [0] 1) (fun q hq => ?_)
  obtain ⟨k, ga, gc, G⟩ := q
  obtain ⟨hk1, hG⟩ := hq
  simp only at hk1 hG
  dsimp only
  refine WX.seq ?_
  refine WX.seq ?_
  refine WX.region rfl ?_
  refine WXL.move Met.none rfl ?_
  refine WXL.fieldAddr (off' := 3) Met.none rfl Try.underlying25 rfl sz23 rfl ?_
  first | refine WXL.ld Met.none rfl agg23 ?_ | refine WXL.ldS Met.none rfl agg23 ?_
  refine WXL.len Met.none rfl Try.underlying23 ?_
  refine WXL.bin Met.none rfl rfl rfl ?_
  refine WXL.nil ?_
  refine Fin.then_normal ?_
  refine WX.cond rfl (fun hc0 => ?_) (fun hc0 => ?_)
  · try simp only [cnd] at hc0
    refine WX.skip ?_
    refine Fin.then_normal ?_
    refine WX.seq ?_
    refine WX.block ?_
    refine WX.region rfl ?_
    refine WXL.move Met.none rfl ?_
    refine WXL.buildSlice (c := [_]) Met.none rfl elem22 sz3 zero3 (by decide) (by decide) rfl rfl rfl rfl (fun b21 => ?_)
    refine WXL.apG [_, _] Met.none rfl rfl isrow22 elem22 sz3 by3 zero3 (Src.lit (cs := [_])) (fun a22 c22 G22 hG22 => ?_)
    refine WXL.assign Met.none rfl ?_
    refine WXL.nil ?_
    refine Fin.block_normal ?_
    refine Fin.then_normal ?_
    refine WX.region rfl ?_
    refine WXL.move Met.none rfl ?_
    refine WXL.bin Met.none rfl rfl bvA ?_
    refine WXL.assign Met.none rfl ?_
    refine WXL.nil ?_
    refine Fin.loop_next (k + 1, a22, c22, G22) ⟨by simp only; omega, ?_⟩ (by simp only; omega) (fun s hs => hs.tl [1] 2)
    rw [replicate_succ_map]
    exact hG22
  · try simp only [cnd] at hc0
    refine WX.exit ?_
    refine Fin.then_exit ?_
    refine Fin.loop_exit ?_
    refine Fin.block_hit rfl ?_
    refine Fin.then_normal ?_
    refine WX.seq ?_
    have hk : k = n.edges.length := by omega
    subst hk
    have hst := MaxIn.start hn
    generalize hz : List.replicate n.edges.length (0 : Int) = z at hG hst
    have hzl : z.length = n.edges.length := by rw [← hz]; simp
    rw [← hzl] at hG
    refine WX.of (L' := [(1, Ptr b1 0), (4, .slice ga z.length gc)]) (fun s hs => hs.told ⟨eq_, (by rw [hzl]; exact rfl), trivial⟩ [0] 1 (by decide) (by decide) rfl) ?_
    refine WX.region rfl ?_
    refine WXL.assign Met.none rfl ?_
    refine WXL.nil ?_
    refine Fin.then_normal ?_
    refine WX.seq ?_
    refine WX.region rfl ?_
    refine WXL.ldN (vs := [_, _, _, _]) Met.none rfl agg25 sz25 ?_
    refine WXL.move Met.none rfl ?_
    refine WXL.cl (O1 := _) Met.none rfl (fnOk_of Try.func40 (by decide +kernel)) rfl (fun _ h => h) (refSearch_ok _ n z true a ga c gc hn hst.flow src_ src_) (fun v O' hp => ?_)
    obtain ⟨b25, c25, rfl, hsl0, rfl⟩ := hp
    refine WXL.assign Met.none rfl ?_
    refine WXL.nil ?_
    refine Fin.then_normal ?_
    refine WX.seq ?_
    refine WX.block ?_
    refine WX.loop (fun q : List Int × Int × Option Addr × Nat × Objs × Nat × Nat => [(1, Ptr b1 0), (4, .slice q.2.2.1 q.1.length q.2.2.2.1), (6, I q.2.1), (7, Row q.2.2.2.2.2.1 0 n.nodes.toNat q.2.2.2.2.2.2)]) (fun q => (q.2.2.2.2.2.1, ⟨1, false, (searchR n q.1 true).map I⟩) :: (b1, ⟨0, false, [I n.nodes, I n.source, I n.sink, .slice a n.edges.length c]⟩) :: (q.2.2.2.2.1 ++ O)) (fun q => MaxIn n q.1 q.2.1 ∧ Grow 1 q.2.2.1 q.1.length q.2.2.2.1 (q.1.map I) q.2.2.2.2.1) (fun q => (9007199254740993 - q.2.1).toNat) (z, 0, ga, gc, G, b25, c25) ⟨hst, hG⟩ (fun s hs => hs.tl [0, 1] 2) (fun q hq => ?_)
    obtain ⟨f, v, fa, fc, F, bq, cq⟩ := q
    obtain ⟨hin, hF⟩ := hq
    simp only at hin hF
    dsimp only
    have hsl := search_len hn f true
    have hfl := hin.flow
    have hfe := hfl.len
    have hv0 := hin.pos
    have hvb := hin.bound hn
    refine WX.seq ?_
    refine WX.seq ?_
    refine WX.region rfl ?_
    refine WXL.move Met.none rfl ?_
    refine WXL.fieldAddr (off' := 2) Met.none rfl Try.underlying25 rfl sz3 rfl ?_
    first | refine WXL.ld Met.none rfl agg3 ?_ | refine WXL.ldS Met.none rfl agg3 ?_
    first | refine WXL.ix Met.none rfl rfl elem22 sz3 ?_ | refine WXL.ixS Met.none rfl rfl elem22 sz3 ?_
    first | refine WXL.ld Met.none rfl agg3 ?_ | refine WXL.ldS Met.none rfl agg3 ?_
    refine WXL.bin Met.none rfl rfl rfl ?_
    refine WXL.nil ?_
    refine Fin.then_normal ?_
    refine WX.cond rfl (fun hc1 => ?_) (fun hc1 => ?_)
    · try simp only [cnd] at hc1
      refine WX.skip ?_
      refine Fin.then_normal ?_
      refine WX.block ?_
      refine WX.seq ?_
      obtain ⟨p0, hW0⟩ := search_way hn hc1
      have hm := minW_le hn hfl hW0
      have hstep := hin.step hn hW0
      refine WX.region rfl ?_
      refine WXL.assign Met.none rfl ?_
      refine WXL.nil ?_
      refine Fin.then_normal ?_
      refine WX.seq ?_
      refine WX.seq ?_
      refine WX.region rfl ?_
      refine WXL.fieldAddr (off' := 2) Met.none rfl Try.underlying25 rfl sz3 rfl ?_
      first | refine WXL.ld Met.none rfl agg3 ?_ | refine WXL.ldS Met.none rfl agg3 ?_
      refine WXL.assign Met.none rfl ?_
      refine WXL.nil ?_
      refine Fin.then_normal ?_
      refine WX.block ?_
      refine WX.loop (fun q : List (Nat × Int) × Int × Int => [(1, Ptr b1 0), (4, .slice fa f.length fc), (6, I v), (7, Row bq 0 n.nodes.toNat cq), (8, I q.2.1), (9, I q.2.2)]) (fun q => (bq, ⟨1, false, (searchR n f true).map I⟩) :: (b1, ⟨0, false, [I n.nodes, I n.source, I n.sink, .slice a n.edges.length c]⟩) :: (F ++ O)) (fun q => Way n f (searchR n f true) q.2.2 q.1 ∧ lrW n f q.2.1 q.1 = minW n f p0) (fun q => q.1.length) (p0, -1, n.sink) ⟨hW0, rfl⟩ (fun s hs => hs.tl [0, 1] 2) (fun q hq => ?_)
      obtain ⟨p, x, w⟩ := q
      obtain ⟨hW, hlr⟩ := hq
      simp only at hW hlr
      dsimp only
      have hwi := hW.inside hn
      have hwl : w.toNat < (searchR n f true).length := by omega
      refine WX.seq ?_
      refine WX.seq ?_
      refine WX.region rfl ?_
      refine WXL.move Met.none rfl ?_
      refine WXL.fieldAddr (off' := 1) Met.none rfl Try.underlying25 rfl sz3 rfl ?_
      first | refine WXL.ld Met.none rfl agg3 ?_ | refine WXL.ldS Met.none rfl agg3 ?_
      refine WXL.bin Met.none rfl rfl rfl ?_
      refine WXL.nil ?_
      refine Fin.then_normal ?_
      refine WX.cond rfl (fun hc2 => ?_) (fun hc2 => ?_)
      · try simp only [cnd] at hc2
        refine WX.skip ?_
        refine Fin.then_normal ?_
        refine WX.seq ?_
        refine WX.block ?_
        refine WX.seq ?_
        obtain ⟨i, p', rfl, hi, hie, hW'⟩ := hW.uncons hc2
        have hin64 := hfl.in64 hn hie
        have hed := hW.edges _ (List.mem_cons_self ..)
        have hif : i < f.length := by rw [hfe]; exact hie
        refine WX.draw rfl ?_
        refine WXL.fieldAddr (off' := 3) Met.none rfl Try.underlying25 rfl sz23 rfl ?_
        first | refine WXL.ld Met.none rfl agg23 ?_ | refine WXL.ldS Met.none rfl agg23 ?_
        refine WXL.move Met.none rfl ?_
        refine WXL.move Met.none rfl ?_
        first | refine WXL.ix Met.none rfl rfl elem22 sz3 ?_ | refine WXL.ixS Met.none rfl rfl elem22 sz3 ?_
        first | refine WXL.ld Met.none rfl agg3 ?_ | refine WXL.ldS Met.none rfl agg3 ?_
        rw [hi]
        first | refine WXL.ix Met.none rfl rfl elem23 sz63 ?_ | refine WXL.ixS Met.none rfl rfl elem23 sz63 ?_
        first | refine WXL.ldN Met.none rfl agg63 sz63 ?_ | refine WXL.ldNS Met.none rfl agg63 sz63 ?_
        refine WXL.move Met.none rfl ?_
        refine WXL.move Met.none rfl ?_
        refine WXL.move Met.none rfl ?_
        first | refine WXL.ix Met.none rfl rfl elem22 sz3 ?_ | refine WXL.ixS Met.none rfl rfl elem22 sz3 ?_
        first | refine WXL.ld Met.none rfl agg3 ?_ | refine WXL.ldS Met.none rfl agg3 ?_
        rw [hi]
        first | refine WXL.ix Met.none rfl rfl elem22 sz3 ?_ | refine WXL.ixS Met.none rfl rfl elem22 sz3 ?_
        first | refine WXL.ld Met.none rfl agg3 ?_ | refine WXL.ldS Met.none rfl agg3 ?_
        refine WXL.fieldAddr (off' := 3) Met.none rfl Try.underlying25 rfl sz23 rfl ?_
        first | refine WXL.ld Met.none rfl agg23 ?_ | refine WXL.ldS Met.none rfl agg23 ?_
        refine WXL.move Met.none rfl ?_
        refine WXL.move Met.none rfl ?_
        first | refine WXL.ix Met.none rfl rfl elem22 sz3 ?_ | refine WXL.ixS Met.none rfl rfl elem22 sz3 ?_
        first | refine WXL.ld Met.none rfl agg3 ?_ | refine WXL.ldS Met.none rfl agg3 ?_
        rw [hi]
        first | refine WXL.ix Met.none rfl rfl elem23 sz63 ?_ | refine WXL.ixS Met.none rfl rfl elem23 sz63 ?_
        first | refine WXL.ldN Met.none rfl agg63 sz63 ?_ | refine WXL.ldNS Met.none rfl agg63 sz63 ?_
        refine WXL.move Met.none rfl ?_
        refine WXL.cl (O1 := _) Met.none rfl (fnOk_of Try.func41 (by decide +kernel)) rfl (fun _ h => h) (other_ok _ (nth n.edges i) w) (fun v O' hp => ?_)
        obtain ⟨rfl, hO⟩ := hp
        subst O'
        refine WXL.cl (O1 := _) Met.none rfl (fnOk_of Try.func42 (by decide +kernel)) rfl (fun _ h => h) (refRest_ok _ (nth n.edges i) (nth f i) (otherR (nth n.edges i) w) hin64.1 hin64.2) (fun v O' hp => ?_)
        obtain ⟨rfl, hO⟩ := hp
        subst O'
        refine WXL.move Met.none rfl ?_
        refine WXL.extract Met.none rfl rfl ?_
        refine WXL.extract Met.none rfl rfl ?_
        refine WXL.assign Met.none rfl ?_
        refine WXL.assign Met.none rfl ?_
        refine WXL.nil ?_
        refine Fin.then_normal ?_
        refine WX.seq ?_
        refine WX.region rfl ?_
        refine WXL.move Met.none rfl ?_
        refine WXL.bin Met.none rfl rfl rfl ?_
        refine WXL.move Met.none rfl ?_
        refine WXL.split (d := 79) rfl (fun hg79 => ?_) (fun hg79 => ?_)
        · try simp only [cnd] at hg79
          refine WXL.miss (j := 2) (d := 79) rfl rfl rfl ?_
          refine WXL.miss (j := 2) (d := 79) rfl rfl rfl ?_
          refine WXL.miss (j := 2) (d := 79) rfl rfl rfl ?_
          refine WXL.pick_t Met.none rfl rfl ?_
          refine WXL.nil ?_
          refine Fin.then_normal ?_
          refine WX.cond rfl (fun hc3 => ?_) (fun hc3 => nomatch hc3)
          refine WX.region rfl ?_
          refine WXL.move Met.none rfl ?_
          refine WXL.assign Met.none rfl ?_
          refine WXL.nil ?_
          refine Fin.block_normal ?_
          refine Fin.then_normal ?_
          refine WX.draw rfl ?_
          refine WXL.fieldAddr (off' := 3) Met.none rfl Try.underlying25 rfl sz23 rfl ?_
          first | refine WXL.ld Met.none rfl agg23 ?_ | refine WXL.ldS Met.none rfl agg23 ?_
          refine WXL.move Met.none rfl ?_
          refine WXL.move Met.none rfl ?_
          first | refine WXL.ix Met.none rfl rfl elem22 sz3 ?_ | refine WXL.ixS Met.none rfl rfl elem22 sz3 ?_
          first | refine WXL.ld Met.none rfl agg3 ?_ | refine WXL.ldS Met.none rfl agg3 ?_
          rw [hi]
          first | refine WXL.ix Met.none rfl rfl elem23 sz63 ?_ | refine WXL.ixS Met.none rfl rfl elem23 sz63 ?_
          first | refine WXL.ldN Met.none rfl agg63 sz63 ?_ | refine WXL.ldNS Met.none rfl agg63 sz63 ?_
          refine WXL.move Met.none rfl ?_
          refine WXL.cl (O1 := _) Met.none rfl (fnOk_of Try.func41 (by decide +kernel)) rfl (fun _ h => h) (other_ok _ (nth n.edges i) w) (fun v O' hp => ?_)
          obtain ⟨rfl, hO⟩ := hp
          subst O'
          refine WXL.assign Met.none rfl ?_
          refine WXL.nil ?_
          first
          | exact Fin.loop_next (p', restOn n f (i, w), otherR (nth n.edges i) w) ⟨hW', (lr_step1 (q := (i, w)) hed.2.1 (.inl hg79)).symm.trans hlr⟩ (by simp) (fun s hs => hs.tl [0, 1] 2)
          | exact Fin.loop_next (p', restOn n f (i, w), otherR (nth n.edges i) w) ⟨hW', (lr_step1 (q := (i, w)) hed.2.1 (.inr hc3)).symm.trans hlr⟩ (by simp) (fun s hs => hs.tl [0, 1] 2)
          | exact Fin.loop_next (p', x, otherR (nth n.edges i) w) ⟨hW', (lr_step2 (n := n) (f := f) (q := (i, w)) (Int.not_lt.2 hg79) (Int.not_lt.2 hc3)).symm.trans hlr⟩ (by simp) (fun s hs => hs.tl [0, 1] 2)
        · try simp only [cnd] at hg79
          refine WXL.move (Met.some rfl rfl rfl) rfl ?_
          refine WXL.move (Met.some rfl rfl rfl) rfl ?_
          refine WXL.bin (Met.some rfl rfl rfl) rfl rfl rfl ?_
          refine WXL.pick_f Met.none rfl rfl ?_
          refine WXL.nil ?_
          refine Fin.then_normal ?_
          refine WX.cond rfl (fun hc3 => ?_) (fun hc3 => ?_)
          · try simp only [cnd] at hc3
            refine WX.region rfl ?_
            refine WXL.move Met.none rfl ?_
            refine WXL.assign Met.none rfl ?_
            refine WXL.nil ?_
            refine Fin.block_normal ?_
            refine Fin.then_normal ?_
            refine WX.draw rfl ?_
            refine WXL.fieldAddr (off' := 3) Met.none rfl Try.underlying25 rfl sz23 rfl ?_
            first | refine WXL.ld Met.none rfl agg23 ?_ | refine WXL.ldS Met.none rfl agg23 ?_
            refine WXL.move Met.none rfl ?_
            refine WXL.move Met.none rfl ?_
            first | refine WXL.ix Met.none rfl rfl elem22 sz3 ?_ | refine WXL.ixS Met.none rfl rfl elem22 sz3 ?_
            first | refine WXL.ld Met.none rfl agg3 ?_ | refine WXL.ldS Met.none rfl agg3 ?_
            rw [hi]
            first | refine WXL.ix Met.none rfl rfl elem23 sz63 ?_ | refine WXL.ixS Met.none rfl rfl elem23 sz63 ?_
            first | refine WXL.ldN Met.none rfl agg63 sz63 ?_ | refine WXL.ldNS Met.none rfl agg63 sz63 ?_
            refine WXL.move Met.none rfl ?_
            refine WXL.cl (O1 := _) Met.none rfl (fnOk_of Try.func41 (by decide +kernel)) rfl (fun _ h => h) (other_ok _ (nth n.edges i) w) (fun v O' hp => ?_)
            obtain ⟨rfl, hO⟩ := hp
            subst O'
            refine WXL.assign Met.none rfl ?_
            refine WXL.nil ?_
            first
            | exact Fin.loop_next (p', restOn n f (i, w), otherR (nth n.edges i) w) ⟨hW', (lr_step1 (q := (i, w)) hed.2.1 (.inl hg79)).symm.trans hlr⟩ (by simp) (fun s hs => hs.tl [0, 1] 2)
            | exact Fin.loop_next (p', restOn n f (i, w), otherR (nth n.edges i) w) ⟨hW', (lr_step1 (q := (i, w)) hed.2.1 (.inr hc3)).symm.trans hlr⟩ (by simp) (fun s hs => hs.tl [0, 1] 2)
            | exact Fin.loop_next (p', x, otherR (nth n.edges i) w) ⟨hW', (lr_step2 (n := n) (f := f) (q := (i, w)) (Int.not_lt.2 hg79) (Int.not_lt.2 hc3)).symm.trans hlr⟩ (by simp) (fun s hs => hs.tl [0, 1] 2)
          · try simp only [cnd] at hc3
            refine WX.skip ?_
            refine Fin.block_normal ?_
            refine Fin.then_normal ?_
            refine WX.draw rfl ?_
            refine WXL.fieldAddr (off' := 3) Met.none rfl Try.underlying25 rfl sz23 rfl ?_
            first | refine WXL.ld Met.none rfl agg23 ?_ | refine WXL.ldS Met.none rfl agg23 ?_
            refine WXL.move Met.none rfl ?_
            refine WXL.move Met.none rfl ?_
            first | refine WXL.ix Met.none rfl rfl elem22 sz3 ?_ | refine WXL.ixS Met.none rfl rfl elem22 sz3 ?_
            first | refine WXL.ld Met.none rfl agg3 ?_ | refine WXL.ldS Met.none rfl agg3 ?_
            rw [hi]
            first | refine WXL.ix Met.none rfl rfl elem23 sz63 ?_ | refine WXL.ixS Met.none rfl rfl elem23 sz63 ?_
            first | refine WXL.ldN Met.none rfl agg63 sz63 ?_ | refine WXL.ldNS Met.none rfl agg63 sz63 ?_
            refine WXL.move Met.none rfl ?_
            refine WXL.cl (O1 := _) Met.none rfl (fnOk_of Try.func41 (by decide +kernel)) rfl (fun _ h => h) (other_ok _ (nth n.edges i) w) (fun v O' hp => ?_)
            obtain ⟨rfl, hO⟩ := hp
            subst O'
            refine WXL.assign Met.none rfl ?_
            refine WXL.nil ?_
            first
            | exact Fin.loop_next (p', restOn n f (i, w), otherR (nth n.edges i) w) ⟨hW', (lr_step1 (q := (i, w)) hed.2.1 (.inl hg79)).symm.trans hlr⟩ (by simp) (fun s hs => hs.tl [0, 1] 2)
            | exact Fin.loop_next (p', restOn n f (i, w), otherR (nth n.edges i) w) ⟨hW', (lr_step1 (q := (i, w)) hed.2.1 (.inr hc3)).symm.trans hlr⟩ (by simp) (fun s hs => hs.tl [0, 1] 2)
            | exact Fin.loop_next (p', x, otherR (nth n.edges i) w) ⟨hW', (lr_step2 (n := n) (f := f) (q := (i, w)) (Int.not_lt.2 hg79) (Int.not_lt.2 hc3)).symm.trans hlr⟩ (by simp) (fun s hs => hs.tl [0, 1] 2)
      · try simp only [cnd] at hc2
        refine WX.exit ?_
        refine Fin.then_exit ?_
        refine Fin.loop_exit ?_
        refine Fin.block_hit rfl ?_
        refine Fin.then_normal ?_
        refine WX.seq ?_
        refine WX.seq ?_
        have hpn := hW.nil_of hc2
        subst hpn
        have hx := lr_end hlr hm.1
        subst hx
        refine WX.region rfl ?_
        refine WXL.fieldAddr (off' := 2) Met.none rfl Try.underlying25 rfl sz3 rfl ?_
        first | refine WXL.ld Met.none rfl agg3 ?_ | refine WXL.ldS Met.none rfl agg3 ?_
        refine WXL.assign Met.none rfl ?_
        refine WXL.nil ?_
        refine Fin.then_normal ?_
        refine WX.block ?_
        refine WX.loop (fun q : List (Nat × Int) × List Int × Int × Objs => [(1, Ptr b1 0), (4, .slice fa q.2.1.length fc), (6, I v), (7, Row bq 0 n.nodes.toNat cq), (8, I (minW n f p0)), (12, I q.2.2.1)]) (fun q => (bq, ⟨1, false, (searchR n f true).map I⟩) :: (b1, ⟨0, false, [I n.nodes, I n.source, I n.sink, .slice a n.edges.length c]⟩) :: (q.2.2.2 ++ O)) (fun q => Chg n f (minW n f p0) p0 q.2.2.1 q.1 q.2.1 ∧ Grow 1 fa q.2.1.length fc (q.2.1.map I) q.2.2.2) (fun q => q.1.length) (p0, f, n.sink, F) ⟨Chg.start hn hW0, hF⟩ (fun s hs => hs.tl [0, 1] 2) (fun q hq => ?_)
        obtain ⟨p, f', w2, F2⟩ := q
        obtain ⟨hC, hF2⟩ := hq
        simp only at hC hF2
        dsimp only
        have hwi2 := hC.way.inside hn
        have hcl := hC.len
        have hwl2 : w2.toNat < (searchR n f true).length := by omega
        refine WX.seq ?_
        refine WX.seq ?_
        refine WX.region rfl ?_
        refine WXL.move Met.none rfl ?_
        refine WXL.fieldAddr (off' := 1) Met.none rfl Try.underlying25 rfl sz3 rfl ?_
        first | refine WXL.ld Met.none rfl agg3 ?_ | refine WXL.ldS Met.none rfl agg3 ?_
        refine WXL.bin Met.none rfl rfl rfl ?_
        refine WXL.nil ?_
        refine Fin.then_normal ?_
        refine WX.cond rfl (fun hc4 => ?_) (fun hc4 => ?_)
        · try simp only [cnd] at hc4
          refine WX.skip ?_
          refine Fin.then_normal ?_
          refine WX.seq ?_
          refine WX.block ?_
          obtain ⟨i, p', rfl, hi, hie, hW'⟩ := hC.way.uncons hc4
          have hin64 := hC.in64 hn hfl hm.1
          refine WX.draw rfl ?_
          refine WXL.ldN (vs := [_, _, _, _]) Met.none rfl agg25 sz25 ?_
          refine WXL.move Met.none rfl ?_
          refine WXL.move Met.none rfl ?_
          refine WXL.move Met.none rfl ?_
          first | refine WXL.ix Met.none rfl rfl elem22 sz3 ?_ | refine WXL.ixS Met.none rfl rfl elem22 sz3 ?_
          first | refine WXL.ld Met.none rfl agg3 ?_ | refine WXL.ldS Met.none rfl agg3 ?_
          rw [hi]
          refine WXL.move Met.none rfl ?_
          refine WXL.move Met.none rfl ?_
          refine WXL.cl (O1 := _) Met.none rfl (fnOk_of Try.func43 (by decide +kernel)) rfl (fun _ h => Sat.back (A := [_, _]) (G := F2) h) (change_ok _ F2 n f' i w2 (minW n f p0) a fa c fc src_ hF2 (by omega) (by omega) hin64.1 hin64.2.1) (fun v O' hp => ?_)
          obtain ⟨F3, hF3, rfl⟩ := hp
          refine WXL.of (fun s hs => St.swap (G := F3) [_, _] hs) ?_
          refine WXL.nil ?_
          refine Fin.block_normal ?_
          refine Fin.then_normal ?_
          refine WX.draw rfl ?_
          refine WXL.fieldAddr (off' := 3) Met.none rfl Try.underlying25 rfl sz23 rfl ?_
          first | refine WXL.ld Met.none rfl agg23 ?_ | refine WXL.ldS Met.none rfl agg23 ?_
          refine WXL.move Met.none rfl ?_
          refine WXL.move Met.none rfl ?_
          first | refine WXL.ix Met.none rfl rfl elem22 sz3 ?_ | refine WXL.ixS Met.none rfl rfl elem22 sz3 ?_
          first | refine WXL.ld Met.none rfl agg3 ?_ | refine WXL.ldS Met.none rfl agg3 ?_
          rw [hi]
          first | refine WXL.ix Met.none rfl rfl elem23 sz63 ?_ | refine WXL.ixS Met.none rfl rfl elem23 sz63 ?_
          first | refine WXL.ldN Met.none rfl agg63 sz63 ?_ | refine WXL.ldNS Met.none rfl agg63 sz63 ?_
          refine WXL.move Met.none rfl ?_
          refine WXL.cl (O1 := _) Met.none rfl (fnOk_of Try.func41 (by decide +kernel)) rfl (fun _ h => h) (other_ok _ (nth n.edges i) w2) (fun v O' hp => ?_)
          obtain ⟨rfl, hO⟩ := hp
          subst O'
          refine WXL.assign Met.none rfl ?_
          refine WXL.nil ?_
          exact Fin.loop_next (p', changeR n f' i w2 (minW n f p0), otherR (nth n.edges i) w2, F3) ⟨hC.next hfe hW', by simp only; rw [changeR_length]; exact hF3⟩ (by simp) (by simp only [changeR_length]; exact (fun s hs => hs.tl [0, 1] 2))
        · try simp only [cnd] at hc4
          refine WX.exit ?_
          refine Fin.then_exit ?_
          refine Fin.loop_exit ?_
          refine Fin.block_hit rfl ?_
          refine Fin.then_normal ?_
          refine WX.seq ?_
          have hpn := hC.way.nil_of hc4
          subst hpn
          have hlast := hC.last
          subst hlast
          have hsb := hstep.bound hn
          refine WX.region rfl ?_
          refine WXL.move Met.none rfl ?_
          refine WXL.move Met.none rfl ?_
          refine WXL.bin Met.none rfl rfl bvA ?_
          refine WXL.assign Met.none rfl ?_
          refine WXL.nil ?_
          refine Fin.then_normal ?_
          refine WX.region rfl ?_
          refine WXL.ldN (vs := [_, _, _, _]) Met.none rfl agg25 sz25 ?_
          refine WXL.move Met.none rfl ?_
          refine WXL.cl (O1 := _) Met.none rfl (fnOk_of Try.func40 (by decide +kernel)) rfl (fun _ h => h) (refSearch_ok _ n _ true a fa c fc hn hstep.flow src_ src_) (fun v O' hp => ?_)
          obtain ⟨b115, c115, rfl, hsl1, rfl⟩ := hp
          refine WXL.assign Met.none rfl ?_
          refine WXL.nil ?_
          refine Fin.block_normal ?_
          exact Fin.loop_next (_, v + minW n f p0, fa, fc, F2, b115, c115) ⟨hstep, hF2⟩ (by simp only; omega) (fun s hs => hs.tl [0, 2] 3)
    · try simp only [cnd] at hc1
      refine WX.exit ?_
      refine Fin.then_exit ?_
      refine Fin.loop_exit ?_
      refine Fin.block_hit rfl ?_
      refine Fin.then_normal ?_
      refine WX.seq ?_
      refine WX.region rfl ?_
      refine WXL.move Met.none rfl ?_
      refine WXL.move Met.none rfl ?_
      refine WXL.assign Met.none rfl ?_
      refine WXL.assign Met.none rfl ?_
      refine WXL.nil ?_
      refine Fin.then_normal ?_
      refine WX.ret ?_
      exact Fin.result (O' := F ++ O) (.inr rfl) rfl rfl (fun _ => Sat.told [] 2 (by decide) (by decide) rfl) ⟨(v, f), fa, fc, F, hin.goal _ (.done hc1), hin, rfl, hF, rfl⟩

end Go.Proofs.Ytjmklialkjncaaa.Eng
