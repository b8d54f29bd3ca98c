/- What leaves the nodes; flows and their values, walked. Own work; no condition. -/
import Derived.Test.YtjmklialkjncaaaFlX
set_option linter.unusedVariables false
set_option linter.unusedSimpArgs false
namespace Go.Proofs.Ytjmklialkjncaaa.Eng

/-- What leaves a node by the first edges. -/
def netTo (n : Net4) (f : List Int) (k : Nat) (v : Int) : Int := sumTo (fun i => leaves n v i (nth f i)) k

theorem netTo_succ (n : Net4) (f : List Int) (k : Nat) (v : Int) : netTo n f (k + 1) v = netTo n f k v + leaves n v k (nth f k) := rfl

theorem netTo_bound {n : Net4} (hn : Sound n) {f : List Int} (hf : Flow n f) (v : Int) : ∀ k, k ≤ n.edges.length → -((k : Int) * 1099511627776) ≤ netTo n f k v ∧ netTo n f k v ≤ k * 1099511627776 := by
  intro k
  induction k with
  | zero => intro _; unfold netTo sumTo; omega
  | succ k ih =>
    intro hk
    have h1 := ih (by omega)
    have he := hn.at (i := k) (by omega)
    have hc := hf.cap k (by omega)
    rw [netTo_succ]
    unfold leaves
    split <;> split <;> omega

theorem netTo_in {n : Net4} (hn : Sound n) {f : List Int} (hf : Flow n f) (v : Int) {k : Nat} (hk : k ≤ n.edges.length) : -9007199254740992 ≤ netTo n f k v ∧ netTo n f k v ≤ 9007199254740992 := by
  have h1 := netTo_bound hn hf v k hk
  have h2 := hn.len
  omega

/-- Behind its edge's one end. -/
def netHalf (n : Net4) (f : List Int) (k : Nat) (v : Int) : Int := netTo n f k v + if (nth n.edges k).a = v then nth f k else 0

theorem netHalf_succ (n : Net4) (f : List Int) (k : Nat) (v : Int) : netTo n f (k + 1) v = netHalf n f k v - if (nth n.edges k).b = v then nth f k else 0 := by
  rw [netTo_succ]
  unfold netHalf leaves
  omega

theorem out_ok (O : Objs) (n : Net4) (f : List Int) (v : Int) (a af : Option Addr) (c cf : Nat) (hn : Sound n) (hfl : Flow n f) (hl : Edges O n a c) (hf : Src O 1 (.slice af f.length cf) f.length (f.map I)) :
    Spec Try.prog true 47 #[netV n a c, .slice af f.length cf, I v] O fun u O' => u = I (netOut n f v) ∧ O' = O := by
  have hlen := hn.len
  have hfe := hfl.len
  refine Spec.enter (args := [_, _, _]) (m := 45) Try.func47 rfl rfl (by decide +kernel) fun h0 => ?_
  refine WX.seq ?_
  refine WX.region rfl ?_
  refine WXL.box (c := [_, _, _, _]) Met.none rfl rfl rfl (fun b3 => ?_)
  refine WXL.assign Met.none rfl ?_
  refine WXL.nil ?_
  refine Fin.then_normal ?_
  refine WX.seq ?_
  refine WX.region rfl ?_
  refine WXL.assign Met.none rfl ?_
  refine WXL.nil ?_
  refine Fin.then_normal ?_
  refine WX.seq ?_
  refine WX.seq ?_
  refine WX.region rfl ?_
  refine WXL.assign Met.none rfl ?_
  refine WXL.nil ?_
  refine Fin.then_normal ?_
  refine WX.block ?_
  refine WX.loop (fun k : Nat => [(1, .slice af f.length cf), (2, I v), (3, Ptr b3 0), (7, I (netTo n f k v)), (8, I (k : Int))]) (fun _ => (b3, ⟨0, false, [I n.nodes, I n.source, I n.sink, .slice a n.edges.length c]⟩) :: O) (fun k => k ≤ n.edges.length) (fun k => n.edges.length - k) 0 (Nat.zero_le _) (fun s hs => hs.tl [0] 1) (fun k hk => ?_)
  have hb := netTo_in hn hfl v hk
  refine WX.seq ?_
  refine WX.seq ?_
  refine WX.region rfl ?_
  refine WXL.move Met.none rfl ?_
  refine WXL.fieldAddr (off' := 3) Met.none rfl Try.underlying25 rfl sz23 rfl ?_
  first | refine WXL.ld Met.none rfl agg23 ?_ | refine WXL.ldS Met.none rfl agg23 ?_
  refine WXL.len Met.none rfl Try.underlying23 ?_
  refine WXL.bin Met.none rfl rfl rfl ?_
  refine WXL.nil ?_
  refine Fin.then_normal ?_
  refine WX.cond rfl (fun hc0 => ?_) (fun hc0 => ?_)
  · try simp only [cnd] at hc0
    refine WX.skip ?_
    refine Fin.then_normal ?_
    refine WX.seq ?_
    refine WX.block ?_
    refine WX.seq ?_
    refine WX.seq ?_
    have hcp := hfl.cap k (by omega)
    have he := hn.at (i := k) (by omega)
    have hsc := netTo_succ n f k v
    have hbs := netTo_in hn hfl v (k := k + 1) (by omega)
    unfold leaves at hsc
    refine WX.region rfl ?_
    refine WXL.fieldAddr (off' := 3) Met.none rfl Try.underlying25 rfl sz23 rfl ?_
    first | refine WXL.ld Met.none rfl agg23 ?_ | refine WXL.ldS Met.none rfl agg23 ?_
    refine WXL.move Met.none rfl ?_
    first | refine WXL.ix Met.none rfl rfl elem23 sz63 ?_ | refine WXL.ixS Met.none rfl rfl elem23 sz63 ?_
    first | refine WXL.fieldAddr Met.none rfl Try.underlying63 rfl sz3 rfl ?_ | refine WXL.faS Met.none rfl Try.underlying63 rfl sz3 ?_
    first | refine WXL.ld Met.none rfl agg3 ?_ | refine WXL.ldS Met.none rfl agg3 ?_
    refine WXL.move Met.none rfl ?_
    refine WXL.bin Met.none rfl rfl rfl ?_
    refine WXL.nil ?_
    refine Fin.then_normal ?_
    refine WX.cond rfl (fun hc1 => ?_) (fun hc1 => ?_)
    · try simp only [cnd] at hc1
      refine WX.region rfl ?_
      refine WXL.move Met.none rfl ?_
      refine WXL.move Met.none rfl ?_
      refine WXL.move Met.none rfl ?_
      first | refine WXL.ix Met.none rfl rfl elem22 sz3 ?_ | refine WXL.ixS Met.none rfl rfl elem22 sz3 ?_
      first | refine WXL.ld Met.none rfl agg3 ?_ | refine WXL.ldS Met.none rfl agg3 ?_
      refine WXL.bin Met.none rfl rfl bvA ?_
      refine WXL.assign Met.none rfl ?_
      refine WXL.nil ?_
      refine Fin.then_normal ?_
      refine WX.seq ?_
      refine WX.region rfl ?_
      refine WXL.fieldAddr (off' := 3) Met.none rfl Try.underlying25 rfl sz23 rfl ?_
      first | refine WXL.ld Met.none rfl agg23 ?_ | refine WXL.ldS Met.none rfl agg23 ?_
      refine WXL.move Met.none rfl ?_
      first | refine WXL.ix Met.none rfl rfl elem23 sz63 ?_ | refine WXL.ixS Met.none rfl rfl elem23 sz63 ?_
      first | refine WXL.fieldAddr Met.none rfl Try.underlying63 rfl sz3 rfl ?_ | refine WXL.faS Met.none rfl Try.underlying63 rfl sz3 ?_
      first | refine WXL.ld Met.none rfl agg3 ?_ | refine WXL.ldS Met.none rfl agg3 ?_
      refine WXL.move Met.none rfl ?_
      refine WXL.bin Met.none rfl rfl rfl ?_
      refine WXL.nil ?_
      refine Fin.then_normal ?_
      refine WX.cond rfl (fun hc2 => ?_) (fun hc2 => ?_)
      · try simp only [cnd] at hc2
        refine WX.region rfl ?_
        refine WXL.move Met.none rfl ?_
        refine WXL.move Met.none rfl ?_
        refine WXL.move Met.none rfl ?_
        first | refine WXL.ix Met.none rfl rfl elem22 sz3 ?_ | refine WXL.ixS Met.none rfl rfl elem22 sz3 ?_
        first | refine WXL.ld Met.none rfl agg3 ?_ | refine WXL.ldS Met.none rfl agg3 ?_
        refine WXL.bin Met.none rfl rfl bvS ?_
        refine WXL.assign Met.none rfl ?_
        refine WXL.nil ?_
        refine Fin.block_normal ?_
        refine Fin.then_normal ?_
        refine WX.region rfl ?_
        refine WXL.move Met.none rfl ?_
        refine WXL.bin Met.none rfl rfl bvA ?_
        refine WXL.assign Met.none rfl ?_
        refine WXL.nil ?_
        refine Fin.loop_next (k + 1) (by first | omega | (simp only; omega)) (by first | omega | (simp only; omega)) ?_
        rw [hsc]
        first
        | (rw [if_pos hc1, if_neg (by omega)]; exact (fun s hs => hs.tl [0] 1))
        | (rw [if_neg hc1, if_pos hc2]; exact (fun s hs => hs.tl [0] 1))
        | (rw [if_neg hc1, if_neg hc2]; exact (fun s hs => hs.tl [0] 1))
      · try simp only [cnd] at hc2
        refine WX.skip ?_
        refine Fin.block_normal ?_
        refine Fin.then_normal ?_
        refine WX.region rfl ?_
        refine WXL.move Met.none rfl ?_
        refine WXL.bin Met.none rfl rfl bvA ?_
        refine WXL.assign Met.none rfl ?_
        refine WXL.nil ?_
        refine Fin.loop_next (k + 1) (by first | omega | (simp only; omega)) (by first | omega | (simp only; omega)) ?_
        rw [hsc]
        first
        | (rw [if_pos hc1, if_neg (by omega)]; exact (fun s hs => hs.tl [0] 1))
        | (rw [if_neg hc1, if_pos hc2]; exact (fun s hs => hs.tl [0] 1))
        | (rw [if_neg hc1, if_neg hc2]; exact (fun s hs => hs.tl [0] 1))
    · try simp only [cnd] at hc1
      refine WX.skip ?_
      refine Fin.then_normal ?_
      refine WX.seq ?_
      refine WX.region rfl ?_
      refine WXL.fieldAddr (off' := 3) Met.none rfl Try.underlying25 rfl sz23 rfl ?_
      first | refine WXL.ld Met.none rfl agg23 ?_ | refine WXL.ldS Met.none rfl agg23 ?_
      refine WXL.move Met.none rfl ?_
      first | refine WXL.ix Met.none rfl rfl elem23 sz63 ?_ | refine WXL.ixS Met.none rfl rfl elem23 sz63 ?_
      first | refine WXL.fieldAddr Met.none rfl Try.underlying63 rfl sz3 rfl ?_ | refine WXL.faS Met.none rfl Try.underlying63 rfl sz3 ?_
      first | refine WXL.ld Met.none rfl agg3 ?_ | refine WXL.ldS Met.none rfl agg3 ?_
      refine WXL.move Met.none rfl ?_
      refine WXL.bin Met.none rfl rfl rfl ?_
      refine WXL.nil ?_
      refine Fin.then_normal ?_
      refine WX.cond rfl (fun hc2 => ?_) (fun hc2 => ?_)
      · try simp only [cnd] at hc2
        refine WX.region rfl ?_
        refine WXL.move Met.none rfl ?_
        refine WXL.move Met.none rfl ?_
        refine WXL.move Met.none rfl ?_
        first | refine WXL.ix Met.none rfl rfl elem22 sz3 ?_ | refine WXL.ixS Met.none rfl rfl elem22 sz3 ?_
        first | refine WXL.ld Met.none rfl agg3 ?_ | refine WXL.ldS Met.none rfl agg3 ?_
        refine WXL.bin Met.none rfl rfl bvS ?_
        refine WXL.assign Met.none rfl ?_
        refine WXL.nil ?_
        refine Fin.block_normal ?_
        refine Fin.then_normal ?_
        refine WX.region rfl ?_
        refine WXL.move Met.none rfl ?_
        refine WXL.bin Met.none rfl rfl bvA ?_
        refine WXL.assign Met.none rfl ?_
        refine WXL.nil ?_
        refine Fin.loop_next (k + 1) (by first | omega | (simp only; omega)) (by first | omega | (simp only; omega)) ?_
        rw [hsc]
        first
        | (rw [if_pos hc1, if_neg (by omega)]; exact (fun s hs => hs.tl [0] 1))
        | (rw [if_neg hc1, if_pos hc2]; exact (fun s hs => hs.tl [0] 1))
        | (rw [if_neg hc1, if_neg hc2]; exact (fun s hs => hs.tl [0] 1))
      · try simp only [cnd] at hc2
        refine WX.skip ?_
        refine Fin.block_normal ?_
        refine Fin.then_normal ?_
        refine WX.region rfl ?_
        refine WXL.move Met.none rfl ?_
        refine WXL.bin Met.none rfl rfl bvA ?_
        refine WXL.assign Met.none rfl ?_
        refine WXL.nil ?_
        refine Fin.loop_next (k + 1) (by first | omega | (simp only; omega)) (by first | omega | (simp only; omega)) ?_
        rw [hsc]
        first
        | (rw [if_pos hc1, if_neg (by omega)]; exact (fun s hs => hs.tl [0] 1))
        | (rw [if_neg hc1, if_pos hc2]; exact (fun s hs => hs.tl [0] 1))
        | (rw [if_neg hc1, if_neg hc2]; exact (fun s hs => hs.tl [0] 1))
  · try simp only [cnd] at hc0
    refine WX.exit ?_
    refine Fin.then_exit ?_
    refine Fin.loop_exit ?_
    refine Fin.block_hit rfl ?_
    refine Fin.then_normal ?_
    refine WX.seq ?_
    refine WX.region rfl ?_
    refine WXL.move Met.none rfl ?_
    refine WXL.assign Met.none rfl ?_
    refine WXL.nil ?_
    refine Fin.then_normal ?_
    refine WX.ret ?_
    have hk2 : k = n.edges.length := by omega
    subst hk2
    exact Fin.result (O' := O) (.inr rfl) rfl rfl drop_ ⟨rfl, rfl⟩

def outs (n : Net4) (F : Int → Int) : List Int := (List.range n.nodes.toNat).map fun (v : Nat) => F (v : Int)

theorem outs_len (n : Net4) (F : Int → Int) : (outs n F).length = n.nodes.toNat := by unfold outs; simp

theorem outs_nth (n : Net4) (F : Int → Int) {v : Int} (h0 : 0 ≤ v) (h1 : v < n.nodes) : nth (outs n F) v.toNat = F v := by
  unfold outs
  rw [nth_map (by simp; omega), nth_get (by simp; omega), List.getElem_range, Int.toNat_of_nonneg h0]

theorem outs_set (n : Net4) (F : Int → Int) {v x : Int} (h0 : 0 ≤ v) (h1 : v < n.nodes) : (outs n F).set v.toNat x = outs n fun u => if v = u then x else F u := by
  refine ext_nth (by rw [List.length_set, outs_len, outs_len]) fun j hj => ?_
  rw [List.length_set, outs_len] at hj
  have e : j = ((j : Int)).toNat := by simp
  rw [nth_set (by rw [outs_len]; omega) (by rw [outs_len]; exact hj), e, outs_nth n _ (by omega) (by omega), outs_nth n _ (by omega) (by omega)]
  by_cases q : v = (j : Int)
  · rw [if_pos q, if_pos (by omega)]
  · rw [if_neg q, if_neg (by omega)]

theorem outs_congr (n : Net4) {F G : Int → Int} (h : ∀ v, F v = G v) : outs n F = outs n G := by
  unfold outs
  exact List.map_congr_left fun v _ => h v

theorem balance_ok (O : Objs) (n : Net4) (f : List Int) (a af : Option Addr) (c cf : Nat) (hn : Sound n) (hfl : Flow n f) (hl : Edges O n a c) (hf : Src O 1 (.slice af f.length cf) f.length (f.map I)) :
    Spec Try.prog false 46 #[netV n a c, .slice af f.length cf] O fun u O' => ∃ b, u = Row b 0 n.nodes.toNat n.nodes.toNat ∧ O' = (b, ⟨1, false, (outs n (netOut n f)).map I⟩) :: O := by
  have hlen := hn.len
  have hfe := hfl.len
  have hnn := hn.nodes
  refine Spec.enter (args := [_, _]) (m := 43) Try.func46 rfl rfl (by decide +kernel) fun h0 => ?_
  refine WX.seq ?_
  refine WX.region rfl ?_
  refine WXL.box (c := [_, _, _, _]) Met.none rfl rfl rfl (fun b2 => ?_)
  refine WXL.assign Met.none rfl ?_
  refine WXL.nil ?_
  refine Fin.then_normal ?_
  refine WX.seq ?_
  refine WX.region rfl ?_
  refine WXL.fieldAddr (off' := 0) Met.none rfl Try.underlying36 rfl sz3 rfl ?_
  first | refine WXL.ld Met.none rfl agg3 ?_ | refine WXL.ldS Met.none rfl agg3 ?_
  refine WXL.makeSlice Met.none rfl rfl elem22 sz3 by3 zero3 (by omega) (by omega) (by omega) rfl (by decide) (by first | rw [Int.toNat_natCast] | exact rfl) (show _ = (outs n (netTo n f 0)).map I from (zerosL_map I 0 _).trans (congrArg (List.map I) (by unfold outs netTo sumTo; rw [List.map_const']; simp))) (fun b10 => ?_)
  refine WXL.assign Met.none rfl ?_
  refine WXL.nil ?_
  refine Fin.then_normal ?_
  refine WX.seq ?_
  refine WX.seq ?_
  refine WX.region rfl ?_
  refine WXL.fieldAddr (off' := 3) Met.none rfl Try.underlying36 rfl sz34 rfl ?_
  first | refine WXL.ld Met.none rfl agg34 ?_ | refine WXL.ldS Met.none rfl agg34 ?_
  refine WXL.len Met.none rfl Try.underlying34 ?_
  refine WXL.move Met.none rfl ?_
  refine WXL.nil ?_
  refine Fin.then_normal ?_
  refine WX.block ?_
  refine WX.loop (fun k : Nat => [(1, .slice af f.length cf), (2, Ptr b2 0), (5, Row b10 0 n.nodes.toNat n.nodes.toNat), (12, .slice a n.edges.length c), (13, I (n.edges.length : Int)), (14, I (k : Int))]) (fun k => (b10, ⟨1, false, (outs n (netTo n f k)).map I⟩) :: (b2, ⟨0, false, [I n.nodes, I n.source, I n.sink, .slice a n.edges.length c]⟩) :: O) (fun k => k ≤ n.edges.length) (fun k => n.edges.length - k) 0 (Nat.zero_le _) (fun s hs => hs.tl [0, 1] 2) (fun k hk => ?_)
  refine WX.seq ?_
  refine WX.region rfl ?_
  refine WXL.bin Met.none rfl rfl rfl ?_
  refine WXL.nil ?_
  refine Fin.then_normal ?_
  refine WX.seq ?_
  refine WX.cond rfl (fun hc0 => ?_) (fun hc0 => ?_)
  · try simp only [cnd] at hc0
    refine WX.skip ?_
    refine Fin.then_normal ?_
    refine WX.seq ?_
    refine WX.block ?_
    refine WX.seq ?_
    have he := hn.at (i := k) (by omega)
    have hcp := hfl.cap k (by omega)
    have ha := outs_nth n (netTo n f k) he.1 he.2.1
    have hb := outs_nth n (netHalf n f k) he.2.2.1 he.2.2.2.1
    have hsa := outs_set n (netTo n f k) (x := netTo n f k (nth n.edges k).a + nth f k) he.1 he.2.1
    have hsb := outs_set n (netHalf n f k) (x := netHalf n f k (nth n.edges k).b - nth f k) he.2.2.1 he.2.2.2.1
    have hba := netTo_in hn hfl (nth n.edges k).a hk
    have hbb := netTo_in hn hfl (nth n.edges k).b hk
    have hhalf : netHalf n f k (nth n.edges k).b = netTo n f k (nth n.edges k).b := by unfold netHalf; rw [if_neg (by omega)]; omega
    have e1 : outs n (fun u => if (nth n.edges k).a = u then netTo n f k (nth n.edges k).a + nth f k else netTo n f k u) = outs n (netHalf n f k) := outs_congr n fun u => by
      unfold netHalf
      split
      · rename_i q; rw [q]
      · omega
    have e2 : outs n (fun u => if (nth n.edges k).b = u then netHalf n f k (nth n.edges k).b - nth f k else netHalf n f k u) = outs n (netTo n f (k + 1)) := outs_congr n fun u => by
      rw [netHalf_succ]
      split
      · rename_i q; rw [q]
      · omega
    have hol : ∀ F, (outs n F).length = n.nodes.toNat := outs_len n
    have hol1 := hol (netTo n f k)
    have hol2 := hol (netHalf n f k)
    refine WX.region rfl ?_
    refine WXL.move Met.none rfl ?_
    first | refine WXL.ix Met.none rfl rfl elem34 sz44 ?_ | refine WXL.ixS Met.none rfl rfl elem34 sz44 ?_
    first | refine WXL.ldN Met.none rfl agg44 sz44 ?_ | refine WXL.ldNS Met.none rfl agg44 sz44 ?_
    refine WXL.alloc (c := [_, _, _, _]) Met.none zero44 rfl (fun b7 => ?_)
    refine WXL.assign Met.none rfl ?_
    refine WXL.st (vs := [_, _, _, _]) (c' := [_, _, _, _]) Met.none rfl rfl rfl sz44 ?_
    refine WXL.nil ?_
    refine Fin.then_normal ?_
    refine WX.seq ?_
    refine WX.draw rfl ?_
    refine WXL.move Met.none rfl ?_
    refine WXL.fieldAddr (off' := 0) Met.none rfl Try.underlying44 rfl sz3 rfl ?_
    first | refine WXL.ld Met.none rfl agg3 ?_ | refine WXL.ldS Met.none rfl agg3 ?_
    first | refine WXL.ix Met.none rfl rfl elem22 sz3 ?_ | refine WXL.ixS Met.none rfl rfl elem22 sz3 ?_
    first | refine WXL.ld Met.none rfl agg3 ?_ | refine WXL.ldS Met.none rfl agg3 ?_
    rw [ha]
    refine WXL.move Met.none rfl ?_
    refine WXL.move Met.none rfl ?_
    first | refine WXL.ix Met.none rfl rfl elem22 sz3 ?_ | refine WXL.ixS Met.none rfl rfl elem22 sz3 ?_
    first | refine WXL.ld Met.none rfl agg3 ?_ | refine WXL.ldS Met.none rfl agg3 ?_
    refine WXL.bin Met.none rfl rfl bvA ?_
    first | refine WXL.ix Met.none rfl rfl elem22 sz3 ?_ | refine WXL.ixS Met.none rfl rfl elem22 sz3 ?_
    refine WXL.st (vs := [_]) (j := 1) Met.none rfl rfl rfl sz3 ?_ (hj := rfl) (hl := (by rw [List.length_map, hol1]; show _ + 1 ≤ _; omega)) (hc := ((splice_map I (outs n (netTo n f k)) _ _ (by omega)).trans (congrArg (List.map I) (hsa.trans e1))))
    refine WXL.nil ?_
    refine Fin.then_normal ?_
    refine WX.draw rfl ?_
    refine WXL.move Met.none rfl ?_
    refine WXL.fieldAddr (off' := 1) Met.none rfl Try.underlying44 rfl sz3 rfl ?_
    first | refine WXL.ld Met.none rfl agg3 ?_ | refine WXL.ldS Met.none rfl agg3 ?_
    first | refine WXL.ix Met.none rfl rfl elem22 sz3 ?_ | refine WXL.ixS Met.none rfl rfl elem22 sz3 ?_
    first | refine WXL.ld Met.none rfl agg3 ?_ | refine WXL.ldS Met.none rfl agg3 ?_
    rw [hb]
    refine WXL.move Met.none rfl ?_
    refine WXL.move Met.none rfl ?_
    first | refine WXL.ix Met.none rfl rfl elem22 sz3 ?_ | refine WXL.ixS Met.none rfl rfl elem22 sz3 ?_
    first | refine WXL.ld Met.none rfl agg3 ?_ | refine WXL.ldS Met.none rfl agg3 ?_
    refine WXL.bin Met.none rfl rfl bvS ?_
    first | refine WXL.ix Met.none rfl rfl elem22 sz3 ?_ | refine WXL.ixS Met.none rfl rfl elem22 sz3 ?_
    refine WXL.st (vs := [_]) (j := 1) Met.none rfl rfl rfl sz3 ?_ (hj := rfl) (hl := (by rw [List.length_map, hol2]; show _ + 1 ≤ _; omega)) (hc := ((splice_map I (outs n (netHalf n f k)) _ _ (by omega)).trans (congrArg (List.map I) (hsb.trans e2))))
    refine WXL.nil ?_
    refine Fin.block_normal ?_
    refine Fin.then_normal ?_
    refine WX.region rfl ?_
    refine WXL.bin Met.none rfl rfl bvA ?_
    refine WXL.move Met.none rfl ?_
    refine WXL.nil ?_
    exact Fin.loop_next (k + 1) (by first | omega | (simp only; omega)) (by first | omega | (simp only; omega)) (fun s hs => hs.tl [1, 2] 3)
  · try simp only [cnd] at hc0
    refine WX.exit ?_
    refine Fin.then_exit ?_
    refine Fin.loop_exit ?_
    refine Fin.block_hit rfl ?_
    refine Fin.then_normal ?_
    refine WX.seq ?_
    refine WX.region rfl ?_
    refine WXL.move Met.none rfl ?_
    refine WXL.assign Met.none rfl ?_
    refine WXL.nil ?_
    refine Fin.then_normal ?_
    refine WX.ret ?_
    have hk2 : k = n.edges.length := by omega
    subst hk2
    exact Fin.result (O' := (b10, ⟨1, false, (outs n (netOut n f)).map I⟩) :: O) (.inr rfl) rfl rfl (fun _ => Sat.told [0] 2 (by decide) (by decide) rfl) ⟨b10, rfl, rfl⟩

/-- What a flow is: within the capacities, and no node but the ends keeps anything. -/
def FlowOk (n : Net4) (f : List Int) : Prop := Flow n f ∧ ∀ v, 0 ≤ v → v < n.nodes → v ≠ n.source → v ≠ n.sink → netOut n f v = 0

theorem flow_ok (O : Objs) (n : Net4) (f : List Int) (a af : Option Addr) (c cf : Nat) (hn : Sound n) (hl : Edges O n a c) (hf : Src O 1 (.slice af f.length cf) f.length (f.map I)) :
    Spec Try.prog false 45 #[netV n a c, .slice af f.length cf] O fun u O' => ∃ t : Bool, u = .bool t ∧ (t = true ↔ FlowOk n f) ∧ O' = O := by
  have hlen := hn.len
  have hnn := hn.nodes
  refine Spec.enter (args := [_, _]) (m := 67) Try.func45 rfl rfl (by decide +kernel) fun h0 => ?_
  refine WX.seq ?_
  refine WX.region rfl ?_
  refine WXL.box (c := [_, _, _, _]) Met.none rfl rfl rfl (fun b2 => ?_)
  refine WXL.assign Met.none rfl ?_
  refine WXL.nil ?_
  refine Fin.then_normal ?_
  refine WX.seq ?_
  refine WX.seq ?_
  refine WX.region rfl ?_
  refine WXL.move Met.none rfl ?_
  refine WXL.len Met.none rfl Try.underlying22 ?_
  refine WXL.fieldAddr (off' := 3) Met.none rfl Try.underlying25 rfl sz23 rfl ?_
  first | refine WXL.ld Met.none rfl agg23 ?_ | refine WXL.ldS Met.none rfl agg23 ?_
  refine WXL.len Met.none rfl Try.underlying23 ?_
  refine WXL.bin Met.none rfl rfl rfl ?_
  refine WXL.nil ?_
  refine Fin.then_normal ?_
  refine WX.cond rfl (fun hc0 => ?_) (fun hc0 => ?_)
  · try simp only [cnd] at hc0
    refine WX.seq ?_
    refine WX.region rfl ?_
    refine WXL.assign Met.none rfl ?_
    refine WXL.nil ?_
    refine Fin.then_normal ?_
    refine WX.ret ?_
    refine Fin.then_ret ?_
    refine Fin.result (O' := O) (.inr rfl) rfl rfl drop_ ⟨_, rfl, ?_, rfl⟩
    first
    | exact ⟨(fun h => nomatch h), fun h => absurd h.1.len (by omega)⟩
    | exact ⟨(fun h => nomatch h), fun h => by have := h.1.cap k (by omega); omega⟩
    | exact ⟨(fun h => nomatch h), fun h => absurd (h.2 w (by omega) (by omega) (by first | assumption | omega) (by first | assumption | omega)) (by first | assumption | omega)⟩
    | exact ⟨fun _ => ⟨hfl, fun v h0 h1 h2 h3 => hbal v h0 (by omega) h2 h3⟩, fun _ => rfl⟩
  · try simp only [cnd] at hc0
    refine WX.skip ?_
    refine Fin.then_normal ?_
    refine WX.seq ?_
    refine WX.seq ?_
    refine WX.region rfl ?_
    refine WXL.assign Met.none rfl ?_
    refine WXL.nil ?_
    refine Fin.then_normal ?_
    refine WX.block ?_
    have hfe : f.length = n.edges.length := by omega
    refine WX.loop (fun k : Nat => [(1, .slice af f.length cf), (2, Ptr b2 0), (5, I (k : Int))]) (fun _ => (b2, ⟨0, false, [I n.nodes, I n.source, I n.sink, .slice a n.edges.length c]⟩) :: O) (fun k => k ≤ n.edges.length ∧ ∀ i, i < k → -(nth n.edges i).back ≤ nth f i ∧ nth f i ≤ (nth n.edges i).cap) (fun k => n.edges.length - k) 0 ⟨Nat.zero_le _, fun i hi => absurd hi (Nat.not_lt_zero _)⟩ (fun s hs => hs.tl [0] 1) (fun k hk => ?_)
    obtain ⟨hk, hcaps⟩ := hk
    refine WX.seq ?_
    refine WX.seq ?_
    refine WX.region rfl ?_
    refine WXL.move Met.none rfl ?_
    refine WXL.move Met.none rfl ?_
    refine WXL.len Met.none rfl Try.underlying22 ?_
    refine WXL.bin Met.none rfl rfl rfl ?_
    refine WXL.nil ?_
    refine Fin.then_normal ?_
    refine WX.cond rfl (fun hc1 => ?_) (fun hc1 => ?_)
    · try simp only [cnd] at hc1
      refine WX.skip ?_
      refine Fin.then_normal ?_
      refine WX.seq ?_
      refine WX.block ?_
      refine WX.seq ?_
      have he := hn.at (i := k) (by omega)
      refine WX.draw rfl ?_
      refine WXL.move Met.none rfl ?_
      refine WXL.move Met.none rfl ?_
      first | refine WXL.ix Met.none rfl rfl elem22 sz3 ?_ | refine WXL.ixS Met.none rfl rfl elem22 sz3 ?_
      first | refine WXL.ld Met.none rfl agg3 ?_ | refine WXL.ldS Met.none rfl agg3 ?_
      refine WXL.fieldAddr (off' := 3) Met.none rfl Try.underlying25 rfl sz23 rfl ?_
      first | refine WXL.ld Met.none rfl agg23 ?_ | refine WXL.ldS Met.none rfl agg23 ?_
      refine WXL.move Met.none rfl ?_
      first | refine WXL.ix Met.none rfl rfl elem23 sz63 ?_ | refine WXL.ixS Met.none rfl rfl elem23 sz63 ?_
      first | refine WXL.fieldAddr Met.none rfl Try.underlying63 rfl sz3 rfl ?_ | refine WXL.faS Met.none rfl Try.underlying63 rfl sz3 ?_
      first | refine WXL.ld Met.none rfl agg3 ?_ | refine WXL.ldS Met.none rfl agg3 ?_
      refine WXL.bin Met.none rfl rfl rfl ?_
      refine WXL.move Met.none rfl ?_
      refine WXL.split (d := 30) rfl (fun hg30 => ?_) (fun hg30 => ?_)
      · try simp only [cnd] at hg30
        refine WXL.miss (j := 11) (d := 30) rfl rfl rfl ?_
        refine WXL.miss (j := 11) (d := 30) rfl rfl rfl ?_
        refine WXL.miss (j := 11) (d := 30) rfl rfl rfl ?_
        refine WXL.miss (j := 11) (d := 30) rfl rfl rfl ?_
        refine WXL.miss (j := 11) (d := 30) rfl rfl rfl ?_
        refine WXL.miss (j := 11) (d := 30) rfl rfl rfl ?_
        refine WXL.miss (j := 11) (d := 30) rfl rfl rfl ?_
        refine WXL.miss (j := 11) (d := 30) rfl rfl rfl ?_
        refine WXL.miss (j := 11) (d := 30) rfl rfl rfl ?_
        refine WXL.miss (j := 11) (d := 30) rfl rfl rfl ?_
        refine WXL.miss (j := 11) (d := 30) rfl rfl rfl ?_
        refine WXL.miss (j := 11) (d := 30) rfl rfl rfl ?_
        refine WXL.pick_t Met.none rfl rfl ?_
        refine WXL.nil ?_
        refine Fin.then_normal ?_
        refine WX.cond rfl (fun hc2 => ?_) (fun hc2 => nomatch hc2)
        refine WX.seq ?_
        refine WX.region rfl ?_
        refine WXL.assign Met.none rfl ?_
        refine WXL.nil ?_
        refine Fin.then_normal ?_
        refine WX.ret ?_
        refine Fin.block_ret ?_
        refine Fin.then_ret ?_
        refine Fin.loop_ret ?_
        refine Fin.block_ret ?_
        refine Fin.then_ret ?_
        refine Fin.result (O' := O) (.inr rfl) rfl rfl drop_ ⟨_, rfl, ?_, rfl⟩
        first
        | exact ⟨(fun h => nomatch h), fun h => absurd h.1.len (by omega)⟩
        | exact ⟨(fun h => nomatch h), fun h => by have := h.1.cap k (by omega); omega⟩
        | exact ⟨(fun h => nomatch h), fun h => absurd (h.2 w (by omega) (by omega) (by first | assumption | omega) (by first | assumption | omega)) (by first | assumption | omega)⟩
        | exact ⟨fun _ => ⟨hfl, fun v h0 h1 h2 h3 => hbal v h0 (by omega) h2 h3⟩, fun _ => rfl⟩
      · try simp only [cnd] at hg30
        refine WXL.move (Met.some rfl rfl rfl) rfl ?_
        refine WXL.move (Met.some rfl rfl rfl) rfl ?_
        first | refine WXL.ix (Met.some rfl rfl rfl) rfl rfl elem22 sz3 ?_ | refine WXL.ixS (Met.some rfl rfl rfl) rfl rfl elem22 sz3 ?_
        first | refine WXL.ld (Met.some rfl rfl rfl) rfl agg3 ?_ | refine WXL.ldS (Met.some rfl rfl rfl) rfl agg3 ?_
        refine WXL.fieldAddr (off' := 3) (Met.some rfl rfl rfl) rfl Try.underlying25 rfl sz23 rfl ?_
        first | refine WXL.ld (Met.some rfl rfl rfl) rfl agg23 ?_ | refine WXL.ldS (Met.some rfl rfl rfl) rfl agg23 ?_
        refine WXL.move (Met.some rfl rfl rfl) rfl ?_
        first | refine WXL.ix (Met.some rfl rfl rfl) rfl rfl elem23 sz63 ?_ | refine WXL.ixS (Met.some rfl rfl rfl) rfl rfl elem23 sz63 ?_
        first | refine WXL.fieldAddr (Met.some rfl rfl rfl) rfl Try.underlying63 rfl sz3 rfl ?_ | refine WXL.faS (Met.some rfl rfl rfl) rfl Try.underlying63 rfl sz3 ?_
        first | refine WXL.ld (Met.some rfl rfl rfl) rfl agg3 ?_ | refine WXL.ldS (Met.some rfl rfl rfl) rfl agg3 ?_
        refine WXL.neg (Met.some rfl rfl rfl) rfl (by first | exact wrap_neg (by omega) (by omega) | exact rfl) ?_
        refine WXL.bin (Met.some rfl rfl rfl) rfl rfl rfl ?_
        refine WXL.pick_f Met.none rfl rfl ?_
        refine WXL.nil ?_
        refine Fin.then_normal ?_
        refine WX.cond rfl (fun hc2 => ?_) (fun hc2 => ?_)
        · try simp only [cnd] at hc2
          refine WX.seq ?_
          refine WX.region rfl ?_
          refine WXL.assign Met.none rfl ?_
          refine WXL.nil ?_
          refine Fin.then_normal ?_
          refine WX.ret ?_
          refine Fin.block_ret ?_
          refine Fin.then_ret ?_
          refine Fin.loop_ret ?_
          refine Fin.block_ret ?_
          refine Fin.then_ret ?_
          refine Fin.result (O' := O) (.inr rfl) rfl rfl drop_ ⟨_, rfl, ?_, rfl⟩
          first
          | exact ⟨(fun h => nomatch h), fun h => absurd h.1.len (by omega)⟩
          | exact ⟨(fun h => nomatch h), fun h => by have := h.1.cap k (by omega); omega⟩
          | exact ⟨(fun h => nomatch h), fun h => absurd (h.2 w (by omega) (by omega) (by first | assumption | omega) (by first | assumption | omega)) (by first | assumption | omega)⟩
          | exact ⟨fun _ => ⟨hfl, fun v h0 h1 h2 h3 => hbal v h0 (by omega) h2 h3⟩, fun _ => rfl⟩
        · try simp only [cnd] at hc2
          refine WX.skip ?_
          refine Fin.block_normal ?_
          refine Fin.then_normal ?_
          refine WX.region rfl ?_
          refine WXL.move Met.none rfl ?_
          refine WXL.bin Met.none rfl rfl bvA ?_
          refine WXL.assign Met.none rfl ?_
          refine WXL.nil ?_
          refine Fin.loop_next (k + 1) ⟨by omega, fun i hi => ?_⟩ (by first | omega | (simp only; omega)) (fun s hs => hs.tl [0] 1)
          rcases Nat.lt_or_ge i k with q | q
          · exact hcaps i q
          · have e : i = k := by omega
            subst e
            omega
    · try simp only [cnd] at hc1
      refine WX.exit ?_
      refine Fin.then_exit ?_
      refine Fin.loop_exit ?_
      refine Fin.block_hit rfl ?_
      refine Fin.then_normal ?_
      refine WX.seq ?_
      refine WX.seq ?_
      have hfl : Flow n f := ⟨hfe, fun i hi => hcaps i (by omega)⟩
      refine WX.region rfl ?_
      refine WXL.assign Met.none rfl ?_
      refine WXL.nil ?_
      refine Fin.then_normal ?_
      refine WX.block ?_
      refine WX.loop (fun w : Nat => [(1, .slice af f.length cf), (2, Ptr b2 0), (6, I (w : Int))]) (fun _ => (b2, ⟨0, false, [I n.nodes, I n.source, I n.sink, .slice a n.edges.length c]⟩) :: O) (fun w => w ≤ n.nodes.toNat ∧ ∀ v : Int, 0 ≤ v → v < w → v ≠ n.source → v ≠ n.sink → netOut n f v = 0) (fun w => n.nodes.toNat - w) 0 ⟨Nat.zero_le _, fun v h0 h1 => by omega⟩ (fun s hs => hs.tl [0] 1) (fun w hw => ?_)
      obtain ⟨hw, hbal⟩ := hw
      refine WX.seq ?_
      refine WX.seq ?_
      refine WX.region rfl ?_
      refine WXL.move Met.none rfl ?_
      refine WXL.fieldAddr (off' := 0) Met.none rfl Try.underlying25 rfl sz3 rfl ?_
      first | refine WXL.ld Met.none rfl agg3 ?_ | refine WXL.ldS Met.none rfl agg3 ?_
      refine WXL.bin Met.none rfl rfl rfl ?_
      refine WXL.nil ?_
      refine Fin.then_normal ?_
      refine WX.cond rfl (fun hc3 => ?_) (fun hc3 => ?_)
      · try simp only [cnd] at hc3
        refine WX.skip ?_
        refine Fin.then_normal ?_
        refine WX.seq ?_
        refine WX.block ?_
        refine WX.seq ?_
        refine WX.region rfl ?_
        refine WXL.move Met.none rfl ?_
        refine WXL.fieldAddr (off' := 1) Met.none rfl Try.underlying25 rfl sz3 rfl ?_
        first | refine WXL.ld Met.none rfl agg3 ?_ | refine WXL.ldS Met.none rfl agg3 ?_
        refine WXL.bin Met.none rfl rfl rfl ?_
        refine WXL.move Met.none rfl ?_
        refine WXL.split (d := 54) rfl (fun hg54 => ?_) (fun hg54 => ?_)
        · try simp only [cnd] at hg54
          refine WXL.move (Met.some rfl rfl rfl) rfl ?_
          refine WXL.fieldAddr (off' := 2) (Met.some rfl rfl rfl) rfl Try.underlying25 rfl sz3 rfl ?_
          first | refine WXL.ld (Met.some rfl rfl rfl) rfl agg3 ?_ | refine WXL.ldS (Met.some rfl rfl rfl) rfl agg3 ?_
          refine WXL.bin (Met.some rfl rfl rfl) rfl rfl rfl ?_
          refine WXL.pick_t Met.none rfl rfl ?_
          refine WXL.move Met.none rfl ?_
          refine WXL.split (d := 60) rfl (fun hg60 => ?_) (fun hg60 => ?_)
          · try simp only [cnd] at hg60
            refine WXL.ldN (vs := [_, _, _, _]) (Met.some rfl rfl rfl) rfl agg25 sz25 ?_
            refine WXL.move (Met.some rfl rfl rfl) rfl ?_
            refine WXL.move (Met.some rfl rfl rfl) rfl ?_
            refine WXL.cl (O1 := _) (Met.some rfl rfl rfl) rfl (fnOk_of Try.func47 (by decide +kernel)) rfl (fun _ h => h) (out_ok _ n f (w : Int) a af c cf hn hfl src_ src_) (fun v O' hp => ?_)
            obtain ⟨rfl, hO⟩ := hp
            subst O'
            refine WXL.bin (Met.some rfl rfl rfl) rfl rfl rfl ?_
            refine WXL.pick_t Met.none rfl rfl ?_
            refine WXL.nil ?_
            refine Fin.then_normal ?_
            refine WX.cond rfl (fun hc4 => ?_) (fun hc4 => ?_)
            · try simp only [cnd] at hc4
              refine WX.seq ?_
              refine WX.region rfl ?_
              refine WXL.assign Met.none rfl ?_
              refine WXL.nil ?_
              refine Fin.then_normal ?_
              refine WX.ret ?_
              refine Fin.block_ret ?_
              refine Fin.then_ret ?_
              refine Fin.loop_ret ?_
              refine Fin.block_ret ?_
              refine Fin.then_ret ?_
              refine Fin.result (O' := O) (.inr rfl) rfl rfl drop_ ⟨_, rfl, ?_, rfl⟩
              first
              | exact ⟨(fun h => nomatch h), fun h => absurd h.1.len (by omega)⟩
              | exact ⟨(fun h => nomatch h), fun h => by have := h.1.cap k (by omega); omega⟩
              | exact ⟨(fun h => nomatch h), fun h => absurd (h.2 w (by omega) (by omega) (by first | assumption | omega) (by first | assumption | omega)) (by first | assumption | omega)⟩
              | exact ⟨fun _ => ⟨hfl, fun v h0 h1 h2 h3 => hbal v h0 (by omega) h2 h3⟩, fun _ => rfl⟩
            · try simp only [cnd] at hc4
              refine WX.skip ?_
              refine Fin.block_normal ?_
              refine Fin.then_normal ?_
              refine WX.region rfl ?_
              refine WXL.move Met.none rfl ?_
              refine WXL.bin Met.none rfl rfl bvA ?_
              refine WXL.assign Met.none rfl ?_
              refine WXL.nil ?_
              refine Fin.loop_next (w + 1) ⟨by omega, fun v h0 h1 h2 h3 => ?_⟩ (by first | omega | (simp only; omega)) (fun s hs => hs.tl [0] 1)
              by_cases q : v < w
              · exact hbal v h0 q h2 h3
              · have e : v = w := by omega
                subst e
                first | contradiction | assumption | omega
          · try simp only [cnd] at hg60
            refine WXL.miss (j := 10) (d := 60) rfl rfl rfl ?_
            refine WXL.miss (j := 10) (d := 60) rfl rfl rfl ?_
            refine WXL.miss (j := 10) (d := 60) rfl rfl rfl ?_
            refine WXL.miss (j := 10) (d := 60) rfl rfl rfl ?_
            refine WXL.miss (j := 10) (d := 60) rfl rfl rfl ?_
            refine WXL.pick_f Met.none rfl rfl ?_
            refine WXL.nil ?_
            refine Fin.then_normal ?_
            refine WX.cond rfl (fun hc4 => nomatch hc4) (fun hc4 => ?_)
            refine WX.skip ?_
            refine Fin.block_normal ?_
            refine Fin.then_normal ?_
            refine WX.region rfl ?_
            refine WXL.move Met.none rfl ?_
            refine WXL.bin Met.none rfl rfl bvA ?_
            refine WXL.assign Met.none rfl ?_
            refine WXL.nil ?_
            refine Fin.loop_next (w + 1) ⟨by omega, fun v h0 h1 h2 h3 => ?_⟩ (by first | omega | (simp only; omega)) (fun s hs => hs.tl [0] 1)
            by_cases q : v < w
            · exact hbal v h0 q h2 h3
            · have e : v = w := by omega
              subst e
              first | contradiction | assumption | omega
        · try simp only [cnd] at hg54
          refine WXL.miss (j := 4) (d := 54) rfl rfl rfl ?_
          refine WXL.miss (j := 4) (d := 54) rfl rfl rfl ?_
          refine WXL.miss (j := 4) (d := 54) rfl rfl rfl ?_
          refine WXL.miss (j := 4) (d := 54) rfl rfl rfl ?_
          refine WXL.pick_f Met.none rfl rfl ?_
          refine WXL.move Met.none rfl ?_
          refine WXL.miss (j := 10) (d := 60) rfl rfl rfl ?_
          refine WXL.miss (j := 10) (d := 60) rfl rfl rfl ?_
          refine WXL.miss (j := 10) (d := 60) rfl rfl rfl ?_
          refine WXL.miss (j := 10) (d := 60) rfl rfl rfl ?_
          refine WXL.miss (j := 10) (d := 60) rfl rfl rfl ?_
          refine WXL.pick_f Met.none rfl rfl ?_
          refine WXL.nil ?_
          refine Fin.then_normal ?_
          refine WX.cond rfl (fun hc4 => nomatch hc4) (fun hc4 => ?_)
          refine WX.skip ?_
          refine Fin.block_normal ?_
          refine Fin.then_normal ?_
          refine WX.region rfl ?_
          refine WXL.move Met.none rfl ?_
          refine WXL.bin Met.none rfl rfl bvA ?_
          refine WXL.assign Met.none rfl ?_
          refine WXL.nil ?_
          refine Fin.loop_next (w + 1) ⟨by omega, fun v h0 h1 h2 h3 => ?_⟩ (by first | omega | (simp only; omega)) (fun s hs => hs.tl [0] 1)
          by_cases q : v < w
          · exact hbal v h0 q h2 h3
          · have e : v = w := by omega
            subst e
            first | contradiction | assumption | omega
      · try simp only [cnd] at hc3
        refine WX.exit ?_
        refine Fin.then_exit ?_
        refine Fin.loop_exit ?_
        refine Fin.block_hit rfl ?_
        refine Fin.then_normal ?_
        refine WX.seq ?_
        refine WX.region rfl ?_
        refine WXL.assign Met.none rfl ?_
        refine WXL.nil ?_
        refine Fin.then_normal ?_
        refine WX.ret ?_
        refine Fin.result (O' := O) (.inr rfl) rfl rfl drop_ ⟨_, rfl, ?_, rfl⟩
        first
        | exact ⟨(fun h => nomatch h), fun h => absurd h.1.len (by omega)⟩
        | exact ⟨(fun h => nomatch h), fun h => by have := h.1.cap k (by omega); omega⟩
        | exact ⟨(fun h => nomatch h), fun h => absurd (h.2 w (by omega) (by omega) (by first | assumption | omega) (by first | assumption | omega)) (by first | assumption | omega)⟩
        | exact ⟨fun _ => ⟨hfl, fun v h0 h1 h2 h3 => hbal v h0 (by omega) h2 h3⟩, fun _ => rfl⟩

/-- A value and its error. -/
def ValR (n : Net4) (f : List Int) (x e : Int) : Prop := ∃ k, Wrong n k ∧ (k ≠ 0 → x = 0 ∧ e = k) ∧ (k = 0 → (FlowOk n f ∧ x = netOut n f n.source ∧ e = 0) ∨ (¬ FlowOk n f ∧ x = 0 ∧ e = 1))

theorem ValR.uniq {n : Net4} {f : List Int} {x e x' e' : Int} (h : ValR n f x e) (h' : ValR n f x' e') : x = x' ∧ e = e' := by
  obtain ⟨k, h1, h2, h3⟩ := h
  obtain ⟨k', g1, g2, g3⟩ := h'
  have ek := h1.uniq g1
  subst ek
  by_cases hk : k = 0
  · rcases h3 hk with ⟨a1, a2, a3⟩ | ⟨a1, a2, a3⟩ <;> rcases g3 hk with ⟨b1, b2, b3⟩ | ⟨b1, b2, b3⟩
    · exact ⟨by rw [a2, b2], by rw [a3, b3]⟩
    · exact absurd a1 b1
    · exact absurd b1 a1
    · exact ⟨by rw [a2, b2], by rw [a3, b3]⟩
  · obtain ⟨a2, a3⟩ := h2 hk
    obtain ⟨b2, b3⟩ := g2 hk
    exact ⟨by rw [a2, b2], by rw [a3, b3]⟩

theorem refValue_ok (O : Objs) (n : Net4) (f : List Int) (a af : Option Addr) (c cf : Nat) (hlen : n.edges.length ≤ 1000000) (hl : Edges O n a c) (hf : Src O 1 (.slice af f.length cf) f.length (f.map I)) :
    Spec Try.prog false 24 #[netV n a c, .slice af f.length cf] O fun u O' => ∃ x e, u = .tuple #[I x, I e] ∧ ValR n f x e ∧ O' = O := by
  refine Spec.enter (args := [_, _]) (m := 21) Try.func24 rfl rfl (by decide +kernel) fun h0 => ?_
  refine WX.seq ?_
  refine WX.region rfl ?_
  refine WXL.box (c := [_, _, _, _]) Met.none rfl rfl rfl (fun b2 => ?_)
  refine WXL.assign Met.none rfl ?_
  refine WXL.assign Met.none rfl ?_
  refine WXL.nil ?_
  refine Fin.then_normal ?_
  refine WX.seq ?_
  refine WX.region rfl ?_
  refine WXL.ldN (vs := [_, _, _, _]) Met.none rfl agg25 sz25 ?_
  refine WXL.cl (O1 := _) Met.none rfl (fnOk_of Try.func14 (by decide +kernel)) rfl (fun _ h => h) (refValid_ok _ n a c src_ hlen) (fun v O' hp => ?_)
  obtain ⟨k, rfl, hk, rfl⟩ := hp
  refine WXL.assign Met.none rfl ?_
  refine WXL.nil ?_
  refine Fin.then_normal ?_
  refine WX.seq ?_
  refine WX.seq ?_
  refine WX.region rfl ?_
  refine WXL.move Met.none rfl ?_
  refine WXL.bin Met.none rfl rfl rfl ?_
  refine WXL.nil ?_
  refine Fin.then_normal ?_
  refine WX.cond rfl (fun hc0 => ?_) (fun hc0 => ?_)
  · try simp only [cnd] at hc0
    refine WX.seq ?_
    refine WX.region rfl ?_
    refine WXL.move Met.none rfl ?_
    refine WXL.assign Met.none rfl ?_
    refine WXL.assign Met.none rfl ?_
    refine WXL.nil ?_
    refine Fin.then_normal ?_
    refine WX.ret ?_
    refine Fin.then_ret ?_
    refine Fin.result (O' := O) (.inr rfl) rfl rfl drop_ ⟨_, _, rfl, ?_, rfl⟩
    first
    | exact ⟨k, hk, fun _ => ⟨rfl, rfl⟩, fun e => absurd e hc0⟩
    | exact ⟨0, hk, fun e => absurd rfl e, fun _ => .inr ⟨fun q => by have := ht.2 q; simp_all, rfl, rfl⟩⟩
    | exact ⟨0, hk, fun e => absurd rfl e, fun _ => .inl ⟨hfo, rfl, rfl⟩⟩
  · try simp only [cnd] at hc0
    refine WX.skip ?_
    refine Fin.then_normal ?_
    refine WX.seq ?_
    refine WX.seq ?_
    have hk0 : k = 0 := by omega
    subst hk0
    have hn := hk.sound
    refine WX.region rfl ?_
    refine WXL.ldN (vs := [_, _, _, _]) Met.none rfl agg25 sz25 ?_
    refine WXL.move Met.none rfl ?_
    refine WXL.cl (O1 := _) Met.none rfl (fnOk_of Try.func45 (by decide +kernel)) rfl (fun _ h => h) (flow_ok _ n f a af c cf hn src_ src_) (fun v O' hp => ?_)
    obtain ⟨t, rfl, ht, rfl⟩ := hp
    refine WXL.not Met.none rfl ?_
    refine WXL.nil ?_
    refine Fin.then_normal ?_
    refine WX.cond rfl (fun hc1 => ?_) (fun hc1 => ?_)
    · try simp only [cnd] at hc1
      refine WX.seq ?_
      refine WX.region rfl ?_
      refine WXL.assign Met.none rfl ?_
      refine WXL.assign Met.none rfl ?_
      refine WXL.nil ?_
      refine Fin.then_normal ?_
      refine WX.ret ?_
      refine Fin.then_ret ?_
      refine Fin.result (O' := O) (.inr rfl) rfl rfl drop_ ⟨_, _, rfl, ?_, rfl⟩
      first
      | exact ⟨k, hk, fun _ => ⟨rfl, rfl⟩, fun e => absurd e hc0⟩
      | exact ⟨0, hk, fun e => absurd rfl e, fun _ => .inr ⟨fun q => by have := ht.2 q; simp_all, rfl, rfl⟩⟩
      | exact ⟨0, hk, fun e => absurd rfl e, fun _ => .inl ⟨hfo, rfl, rfl⟩⟩
    · try simp only [cnd] at hc1
      refine WX.skip ?_
      refine Fin.then_normal ?_
      refine WX.seq ?_
      have hfo := ht.1 (by first | exact hc1 | simpa using hc1)
      refine WX.region rfl ?_
      refine WXL.ldN (vs := [_, _, _, _]) Met.none rfl agg25 sz25 ?_
      refine WXL.move Met.none rfl ?_
      refine WXL.fieldAddr (off' := 1) Met.none rfl Try.underlying25 rfl sz3 rfl ?_
      first | refine WXL.ld Met.none rfl agg3 ?_ | refine WXL.ldS Met.none rfl agg3 ?_
      refine WXL.cl (O1 := _) Met.none rfl (fnOk_of Try.func47 (by decide +kernel)) rfl (fun _ h => h) (out_ok _ n f n.source a af c cf hn hfo.1 src_ src_) (fun v O' hp => ?_)
      obtain ⟨rfl, hO⟩ := hp
      subst O'
      refine WXL.assign Met.none rfl ?_
      refine WXL.assign Met.none rfl ?_
      refine WXL.nil ?_
      refine Fin.then_normal ?_
      refine WX.ret ?_
      refine Fin.result (O' := O) (.inr rfl) rfl rfl drop_ ⟨_, _, rfl, ?_, rfl⟩
      first
      | exact ⟨k, hk, fun _ => ⟨rfl, rfl⟩, fun e => absurd e hc0⟩
      | exact ⟨0, hk, fun e => absurd rfl e, fun _ => .inr ⟨fun q => by have := ht.2 q; simp_all, rfl, rfl⟩⟩
      | exact ⟨0, hk, fun e => absurd rfl e, fun _ => .inl ⟨hfo, rfl, rfl⟩⟩

theorem value_ok (O : Objs) (n : Net4) (f : List Int) (a af : Option Addr) (c cf : Nat) (hlen : n.edges.length ≤ 1000000) (hl : Edges O n a c) (hf : Src O 1 (.slice af f.length cf) f.length (f.map I)) :
    Spec Try.prog false 23 #[netV n a c, .slice af f.length cf] O fun u O' => ∃ x e, u = .tuple #[I x, I e] ∧ ValR n f x e ∧ O' = O := by
  refine Spec.enter (args := [_, _]) (m := 79) Try.func23 rfl rfl (by decide +kernel) fun h0 => ?_
  refine WX.seq ?_
  refine WX.region rfl ?_
  refine WXL.box (c := [_, _, _, _]) Met.none rfl rfl rfl (fun b2 => ?_)
  refine WXL.assign Met.none rfl ?_
  refine WXL.assign Met.none rfl ?_
  refine WXL.nil ?_
  refine Fin.then_normal ?_
  refine WX.seq ?_
  refine WX.seq ?_
  refine WX.region rfl ?_
  refine WXL.ldN (vs := [_, _, _, _]) Met.none rfl agg36 sz36 ?_
  refine WXL.cl (O1 := _) Met.none rfl (fnOk_of Try.func34 (by decide +kernel)) rfl (fun _ h => h) (valid_ok _ n a c src_ hlen) (fun v O' hp => ?_)
  obtain ⟨k, rfl, hk, rfl⟩ := hp
  refine WXL.assign Met.none rfl ?_
  refine WXL.nil ?_
  refine Fin.then_normal ?_
  refine WX.seq ?_
  refine WX.region rfl ?_
  refine WXL.move Met.none rfl ?_
  refine WXL.bin Met.none rfl rfl rfl ?_
  refine WXL.nil ?_
  refine Fin.then_normal ?_
  refine WX.cond rfl (fun hc0 => ?_) (fun hc0 => ?_)
  · try simp only [cnd] at hc0
    refine WX.seq ?_
    refine WX.region rfl ?_
    refine WXL.move Met.none rfl ?_
    refine WXL.assign Met.none rfl ?_
    refine WXL.assign Met.none rfl ?_
    refine WXL.nil ?_
    refine Fin.then_normal ?_
    refine WX.ret ?_
    refine Fin.then_ret ?_
    refine Fin.result (O' := O) (.inr rfl) rfl rfl drop_ ⟨_, _, rfl, ?_, rfl⟩
    first
    | exact ⟨k, hk, fun _ => ⟨rfl, rfl⟩, fun e => absurd e hc0⟩
    | exact ⟨0, hk, fun e => absurd rfl e, fun _ => .inr ⟨fun q => absurd q.1.len (by omega), rfl, rfl⟩⟩
    | exact ⟨0, hk, fun e => absurd rfl e, fun _ => .inr ⟨fun q => by have := q.1.cap j (by omega); omega, rfl, rfl⟩⟩
    | exact ⟨0, hk, fun e => absurd rfl e, fun _ => .inr ⟨fun q => absurd (q.2 w (by omega) (by omega) (by first | assumption | omega) (by first | assumption | omega)) (by first | assumption | omega), rfl, rfl⟩⟩
    | exact ⟨0, hk, fun e => absurd rfl e, fun _ => .inl ⟨⟨hfl, fun v h0 h1 h2 h3 => hbal v h0 (by omega) h2 h3⟩, rfl, rfl⟩⟩
  · try simp only [cnd] at hc0
    refine WX.skip ?_
    refine Fin.then_normal ?_
    refine WX.seq ?_
    refine WX.seq ?_
    have hk0 : k = 0 := by omega
    subst hk0
    have hn := hk.sound
    have hnn := hn.nodes
    have hns := hn.source
    refine WX.region rfl ?_
    refine WXL.move Met.none rfl ?_
    refine WXL.len Met.none rfl Try.underlying22 ?_
    refine WXL.fieldAddr (off' := 3) Met.none rfl Try.underlying36 rfl sz34 rfl ?_
    first | refine WXL.ld Met.none rfl agg34 ?_ | refine WXL.ldS Met.none rfl agg34 ?_
    refine WXL.len Met.none rfl Try.underlying34 ?_
    refine WXL.bin Met.none rfl rfl rfl ?_
    refine WXL.nil ?_
    refine Fin.then_normal ?_
    refine WX.cond rfl (fun hc1 => ?_) (fun hc1 => ?_)
    · try simp only [cnd] at hc1
      refine WX.seq ?_
      refine WX.region rfl ?_
      refine WXL.assign Met.none rfl ?_
      refine WXL.assign Met.none rfl ?_
      refine WXL.nil ?_
      refine Fin.then_normal ?_
      refine WX.ret ?_
      refine Fin.then_ret ?_
      refine Fin.result (O' := O) (.inr rfl) rfl rfl drop_ ⟨_, _, rfl, ?_, rfl⟩
      first
      | exact ⟨k, hk, fun _ => ⟨rfl, rfl⟩, fun e => absurd e hc0⟩
      | exact ⟨0, hk, fun e => absurd rfl e, fun _ => .inr ⟨fun q => absurd q.1.len (by omega), rfl, rfl⟩⟩
      | exact ⟨0, hk, fun e => absurd rfl e, fun _ => .inr ⟨fun q => by have := q.1.cap j (by omega); omega, rfl, rfl⟩⟩
      | exact ⟨0, hk, fun e => absurd rfl e, fun _ => .inr ⟨fun q => absurd (q.2 w (by omega) (by omega) (by first | assumption | omega) (by first | assumption | omega)) (by first | assumption | omega), rfl, rfl⟩⟩
      | exact ⟨0, hk, fun e => absurd rfl e, fun _ => .inl ⟨⟨hfl, fun v h0 h1 h2 h3 => hbal v h0 (by omega) h2 h3⟩, rfl, rfl⟩⟩
    · try simp only [cnd] at hc1
      refine WX.skip ?_
      refine Fin.then_normal ?_
      refine WX.seq ?_
      refine WX.seq ?_
      refine WX.region rfl ?_
      refine WXL.fieldAddr (off' := 3) Met.none rfl Try.underlying36 rfl sz34 rfl ?_
      first | refine WXL.ld Met.none rfl agg34 ?_ | refine WXL.ldS Met.none rfl agg34 ?_
      refine WXL.len Met.none rfl Try.underlying34 ?_
      refine WXL.move Met.none rfl ?_
      refine WXL.nil ?_
      refine Fin.then_normal ?_
      refine WX.block ?_
      have hfe : f.length = n.edges.length := by omega
      refine WX.loop (fun k : Nat => [(1, .slice af f.length cf), (2, Ptr b2 0), (24, .slice a n.edges.length c), (25, I (n.edges.length : Int)), (26, I (k : Int))]) (fun _ => (b2, ⟨0, false, [I n.nodes, I n.source, I n.sink, .slice a n.edges.length c]⟩) :: O) (fun k => k ≤ n.edges.length ∧ ∀ i, i < k → -(nth n.edges i).back ≤ nth f i ∧ nth f i ≤ (nth n.edges i).cap) (fun k => n.edges.length - k) 0 ⟨Nat.zero_le _, fun i hi => absurd hi (Nat.not_lt_zero _)⟩ (fun s hs => hs.tl [0] 1) (fun j hk2 => ?_)
      obtain ⟨hj, hcaps⟩ := hk2
      refine WX.seq ?_
      refine WX.region rfl ?_
      refine WXL.bin Met.none rfl rfl rfl ?_
      refine WXL.nil ?_
      refine Fin.then_normal ?_
      refine WX.seq ?_
      refine WX.cond rfl (fun hc2 => ?_) (fun hc2 => ?_)
      · try simp only [cnd] at hc2
        refine WX.skip ?_
        refine Fin.then_normal ?_
        refine WX.seq ?_
        refine WX.block ?_
        refine WX.seq ?_
        have he := hn.at (i := j) (by omega)
        refine WX.region rfl ?_
        refine WXL.move Met.none rfl ?_
        first | refine WXL.ix Met.none rfl rfl elem34 sz44 ?_ | refine WXL.ixS Met.none rfl rfl elem34 sz44 ?_
        first | refine WXL.ldN Met.none rfl agg44 sz44 ?_ | refine WXL.ldNS Met.none rfl agg44 sz44 ?_
        refine WXL.alloc (c := [_, _, _, _]) Met.none zero44 rfl (fun b8 => ?_)
        refine WXL.assign Met.none rfl ?_
        refine WXL.st (vs := [_, _, _, _]) (c' := [_, _, _, _]) Met.none rfl rfl rfl sz44 ?_
        refine WXL.nil ?_
        refine Fin.then_normal ?_
        refine WX.seq ?_
        refine WX.draw rfl ?_
        refine WXL.move Met.none rfl ?_
        refine WXL.move Met.none rfl ?_
        first | refine WXL.ix Met.none rfl rfl elem22 sz3 ?_ | refine WXL.ixS Met.none rfl rfl elem22 sz3 ?_
        first | refine WXL.ld Met.none rfl agg3 ?_ | refine WXL.ldS Met.none rfl agg3 ?_
        refine WXL.fieldAddr (off' := 2) Met.none rfl Try.underlying44 rfl sz3 rfl ?_
        first | refine WXL.ld Met.none rfl agg3 ?_ | refine WXL.ldS Met.none rfl agg3 ?_
        refine WXL.bin Met.none rfl rfl rfl ?_
        refine WXL.move Met.none rfl ?_
        refine WXL.split (d := 38) rfl (fun hg38 => ?_) (fun hg38 => ?_)
        · try simp only [cnd] at hg38
          refine WXL.miss (j := 7) (d := 38) rfl rfl rfl ?_
          refine WXL.miss (j := 7) (d := 38) rfl rfl rfl ?_
          refine WXL.miss (j := 7) (d := 38) rfl rfl rfl ?_
          refine WXL.miss (j := 7) (d := 38) rfl rfl rfl ?_
          refine WXL.miss (j := 7) (d := 38) rfl rfl rfl ?_
          refine WXL.miss (j := 7) (d := 38) rfl rfl rfl ?_
          refine WXL.miss (j := 7) (d := 38) rfl rfl rfl ?_
          refine WXL.miss (j := 7) (d := 38) rfl rfl rfl ?_
          refine WXL.pick_t Met.none rfl rfl ?_
          refine WXL.nil ?_
          refine Fin.then_normal ?_
          refine WX.cond rfl (fun hc3 => ?_) (fun hc3 => nomatch hc3)
          refine WX.seq ?_
          refine WX.region rfl ?_
          refine WXL.assign Met.none rfl ?_
          refine WXL.assign Met.none rfl ?_
          refine WXL.nil ?_
          refine Fin.then_normal ?_
          refine WX.ret ?_
          refine Fin.block_ret ?_
          refine Fin.then_ret ?_
          refine Fin.loop_ret ?_
          refine Fin.block_ret ?_
          refine Fin.then_ret ?_
          refine Fin.result (O' := O) (.inr rfl) rfl rfl drop_ ⟨_, _, rfl, ?_, rfl⟩
          first
          | exact ⟨k, hk, fun _ => ⟨rfl, rfl⟩, fun e => absurd e hc0⟩
          | exact ⟨0, hk, fun e => absurd rfl e, fun _ => .inr ⟨fun q => absurd q.1.len (by omega), rfl, rfl⟩⟩
          | exact ⟨0, hk, fun e => absurd rfl e, fun _ => .inr ⟨fun q => by have := q.1.cap j (by omega); omega, rfl, rfl⟩⟩
          | exact ⟨0, hk, fun e => absurd rfl e, fun _ => .inr ⟨fun q => absurd (q.2 w (by omega) (by omega) (by first | assumption | omega) (by first | assumption | omega)) (by first | assumption | omega), rfl, rfl⟩⟩
          | exact ⟨0, hk, fun e => absurd rfl e, fun _ => .inl ⟨⟨hfl, fun v h0 h1 h2 h3 => hbal v h0 (by omega) h2 h3⟩, rfl, rfl⟩⟩
        · try simp only [cnd] at hg38
          refine WXL.move (Met.some rfl rfl rfl) rfl ?_
          refine WXL.move (Met.some rfl rfl rfl) rfl ?_
          first | refine WXL.ix (Met.some rfl rfl rfl) rfl rfl elem22 sz3 ?_ | refine WXL.ixS (Met.some rfl rfl rfl) rfl rfl elem22 sz3 ?_
          first | refine WXL.ld (Met.some rfl rfl rfl) rfl agg3 ?_ | refine WXL.ldS (Met.some rfl rfl rfl) rfl agg3 ?_
          refine WXL.fieldAddr (off' := 3) (Met.some rfl rfl rfl) rfl Try.underlying44 rfl sz3 rfl ?_
          first | refine WXL.ld (Met.some rfl rfl rfl) rfl agg3 ?_ | refine WXL.ldS (Met.some rfl rfl rfl) rfl agg3 ?_
          refine WXL.neg (Met.some rfl rfl rfl) rfl (by first | exact wrap_neg (by omega) (by omega) | exact rfl) ?_
          refine WXL.bin (Met.some rfl rfl rfl) rfl rfl rfl ?_
          refine WXL.pick_f Met.none rfl rfl ?_
          refine WXL.nil ?_
          refine Fin.then_normal ?_
          refine WX.cond rfl (fun hc3 => ?_) (fun hc3 => ?_)
          · try simp only [cnd] at hc3
            refine WX.seq ?_
            refine WX.region rfl ?_
            refine WXL.assign Met.none rfl ?_
            refine WXL.assign Met.none rfl ?_
            refine WXL.nil ?_
            refine Fin.then_normal ?_
            refine WX.ret ?_
            refine Fin.block_ret ?_
            refine Fin.then_ret ?_
            refine Fin.loop_ret ?_
            refine Fin.block_ret ?_
            refine Fin.then_ret ?_
            refine Fin.result (O' := O) (.inr rfl) rfl rfl drop_ ⟨_, _, rfl, ?_, rfl⟩
            first
            | exact ⟨k, hk, fun _ => ⟨rfl, rfl⟩, fun e => absurd e hc0⟩
            | exact ⟨0, hk, fun e => absurd rfl e, fun _ => .inr ⟨fun q => absurd q.1.len (by omega), rfl, rfl⟩⟩
            | exact ⟨0, hk, fun e => absurd rfl e, fun _ => .inr ⟨fun q => by have := q.1.cap j (by omega); omega, rfl, rfl⟩⟩
            | exact ⟨0, hk, fun e => absurd rfl e, fun _ => .inr ⟨fun q => absurd (q.2 w (by omega) (by omega) (by first | assumption | omega) (by first | assumption | omega)) (by first | assumption | omega), rfl, rfl⟩⟩
            | exact ⟨0, hk, fun e => absurd rfl e, fun _ => .inl ⟨⟨hfl, fun v h0 h1 h2 h3 => hbal v h0 (by omega) h2 h3⟩, rfl, rfl⟩⟩
          · try simp only [cnd] at hc3
            refine WX.skip ?_
            refine Fin.block_normal ?_
            refine Fin.then_normal ?_
            refine WX.region rfl ?_
            refine WXL.bin Met.none rfl rfl bvA ?_
            refine WXL.move Met.none rfl ?_
            refine WXL.nil ?_
            refine Fin.loop_next (j + 1) ⟨by omega, fun i hi => ?_⟩ (by first | omega | (simp only; omega)) (fun s hs => hs.tl [1] 2)
            rcases Nat.lt_or_ge i j with q | q
            · exact hcaps i q
            · have e : i = j := by omega
              subst e
              omega
      · try simp only [cnd] at hc2
        refine WX.exit ?_
        refine Fin.then_exit ?_
        refine Fin.loop_exit ?_
        refine Fin.block_hit rfl ?_
        refine Fin.then_normal ?_
        refine WX.seq ?_
        have hfl : Flow n f := ⟨hfe, fun i hi => hcaps i (by omega)⟩
        refine WX.region rfl ?_
        refine WXL.ldN (vs := [_, _, _, _]) Met.none rfl agg36 sz36 ?_
        refine WXL.move Met.none rfl ?_
        refine WXL.cl (O1 := _) Met.none rfl (fnOk_of Try.func46 (by decide +kernel)) rfl (fun _ h => h) (balance_ok _ n f a af c cf hn hfl src_ src_) (fun v O' hp => ?_)
        obtain ⟨bO, rfl, rfl⟩ := hp
        refine WXL.assign Met.none rfl ?_
        refine WXL.nil ?_
        refine Fin.then_normal ?_
        refine WX.seq ?_
        refine WX.seq ?_
        have hol := outs_len n (netOut n f)
        refine WX.region rfl ?_
        refine WXL.move Met.none rfl ?_
        refine WXL.len Met.none rfl Try.underlying22 ?_
        refine WXL.move Met.none rfl ?_
        refine WXL.nil ?_
        refine Fin.then_normal ?_
        refine WX.block ?_
        refine WX.loop (fun w : Nat => [(2, Ptr b2 0), (9, Row bO 0 n.nodes.toNat n.nodes.toNat), (52, Row bO 0 n.nodes.toNat n.nodes.toNat), (53, I (n.nodes.toNat : Int)), (54, I (w : Int))]) (fun _ => (bO, ⟨1, false, (outs n (netOut n f)).map I⟩) :: (b2, ⟨0, false, [I n.nodes, I n.source, I n.sink, .slice a n.edges.length c]⟩) :: O) (fun w => w ≤ n.nodes.toNat ∧ ∀ v : Int, 0 ≤ v → v < w → v ≠ n.source → v ≠ n.sink → netOut n f v = 0) (fun w => n.nodes.toNat - w) 0 ⟨Nat.zero_le _, fun v h0 h1 => by omega⟩ (fun s hs => hs.tl [0, 1] 2) (fun w hw => ?_)
        obtain ⟨hw, hbal⟩ := hw
        refine WX.seq ?_
        refine WX.region rfl ?_
        refine WXL.bin Met.none rfl rfl rfl ?_
        refine WXL.nil ?_
        refine Fin.then_normal ?_
        refine WX.seq ?_
        refine WX.cond rfl (fun hc4 => ?_) (fun hc4 => ?_)
        · try simp only [cnd] at hc4
          refine WX.skip ?_
          refine Fin.then_normal ?_
          refine WX.seq ?_
          refine WX.block ?_
          refine WX.seq ?_
          have hat : nth (outs n (netOut n f)) w = netOut n f w := outs_nth n (netOut n f) (v := (w : Int)) (by omega) (by omega)
          refine WX.region rfl ?_
          refine WXL.move Met.none rfl ?_
          first | refine WXL.ix Met.none rfl rfl elem22 sz3 ?_ | refine WXL.ixS Met.none rfl rfl elem22 sz3 ?_
          first | refine WXL.ld Met.none rfl agg3 ?_ | refine WXL.ldS Met.none rfl agg3 ?_
          rw [hat]
          refine WXL.assign Met.none rfl ?_
          refine WXL.assign Met.none rfl ?_
          refine WXL.nil ?_
          refine Fin.then_normal ?_
          refine WX.seq ?_
          refine WX.region rfl ?_
          refine WXL.move Met.none rfl ?_
          refine WXL.bin Met.none rfl rfl rfl ?_
          refine WXL.move Met.none rfl ?_
          refine WXL.split (d := 61) rfl (fun hg61 => ?_) (fun hg61 => ?_)
          · try simp only [cnd] at hg61
            refine WXL.move (Met.some rfl rfl rfl) rfl ?_
            refine WXL.fieldAddr (off' := 1) (Met.some rfl rfl rfl) rfl Try.underlying36 rfl sz3 rfl ?_
            first | refine WXL.ld (Met.some rfl rfl rfl) rfl agg3 ?_ | refine WXL.ldS (Met.some rfl rfl rfl) rfl agg3 ?_
            refine WXL.bin (Met.some rfl rfl rfl) rfl rfl rfl ?_
            refine WXL.pick_t Met.none rfl rfl ?_
            refine WXL.move Met.none rfl ?_
            refine WXL.split (d := 67) rfl (fun hg67 => ?_) (fun hg67 => ?_)
            · try simp only [cnd] at hg67
              refine WXL.move (Met.some rfl rfl rfl) rfl ?_
              refine WXL.fieldAddr (off' := 2) (Met.some rfl rfl rfl) rfl Try.underlying36 rfl sz3 rfl ?_
              first | refine WXL.ld (Met.some rfl rfl rfl) rfl agg3 ?_ | refine WXL.ldS (Met.some rfl rfl rfl) rfl agg3 ?_
              refine WXL.bin (Met.some rfl rfl rfl) rfl rfl rfl ?_
              refine WXL.pick_t Met.none rfl rfl ?_
              refine WXL.nil ?_
              refine Fin.then_normal ?_
              refine WX.cond rfl (fun hc5 => ?_) (fun hc5 => ?_)
              · try simp only [cnd] at hc5
                refine WX.seq ?_
                refine WX.region rfl ?_
                refine WXL.assign Met.none rfl ?_
                refine WXL.assign Met.none rfl ?_
                refine WXL.nil ?_
                refine Fin.then_normal ?_
                refine WX.ret ?_
                refine Fin.block_ret ?_
                refine Fin.then_ret ?_
                refine Fin.loop_ret ?_
                refine Fin.block_ret ?_
                refine Fin.then_ret ?_
                refine Fin.result (O' := O) (.inr rfl) rfl rfl drop_ ⟨_, _, rfl, ?_, rfl⟩
                first
                | exact ⟨k, hk, fun _ => ⟨rfl, rfl⟩, fun e => absurd e hc0⟩
                | exact ⟨0, hk, fun e => absurd rfl e, fun _ => .inr ⟨fun q => absurd q.1.len (by omega), rfl, rfl⟩⟩
                | exact ⟨0, hk, fun e => absurd rfl e, fun _ => .inr ⟨fun q => by have := q.1.cap j (by omega); omega, rfl, rfl⟩⟩
                | exact ⟨0, hk, fun e => absurd rfl e, fun _ => .inr ⟨fun q => absurd (q.2 w (by omega) (by omega) (by first | assumption | omega) (by first | assumption | omega)) (by first | assumption | omega), rfl, rfl⟩⟩
                | exact ⟨0, hk, fun e => absurd rfl e, fun _ => .inl ⟨⟨hfl, fun v h0 h1 h2 h3 => hbal v h0 (by omega) h2 h3⟩, rfl, rfl⟩⟩
              · try simp only [cnd] at hc5
                refine WX.skip ?_
                refine Fin.block_normal ?_
                refine Fin.then_normal ?_
                refine WX.region rfl ?_
                refine WXL.bin Met.none rfl rfl bvA ?_
                refine WXL.move Met.none rfl ?_
                refine WXL.nil ?_
                refine Fin.loop_next (w + 1) ⟨by omega, fun v h0 h1 h2 h3 => ?_⟩ (by first | omega | (simp only; omega)) (fun s hs => hs.tl [0, 1] 2)
                by_cases q : v < w
                · exact hbal v h0 q h2 h3
                · have e : v = w := by omega
                  subst e
                  first | contradiction | assumption | omega
            · try simp only [cnd] at hg67
              refine WXL.miss (j := 8) (d := 67) rfl rfl rfl ?_
              refine WXL.miss (j := 8) (d := 67) rfl rfl rfl ?_
              refine WXL.miss (j := 8) (d := 67) rfl rfl rfl ?_
              refine WXL.miss (j := 8) (d := 67) rfl rfl rfl ?_
              refine WXL.pick_f Met.none rfl rfl ?_
              refine WXL.nil ?_
              refine Fin.then_normal ?_
              refine WX.cond rfl (fun hc5 => nomatch hc5) (fun hc5 => ?_)
              refine WX.skip ?_
              refine Fin.block_normal ?_
              refine Fin.then_normal ?_
              refine WX.region rfl ?_
              refine WXL.bin Met.none rfl rfl bvA ?_
              refine WXL.move Met.none rfl ?_
              refine WXL.nil ?_
              refine Fin.loop_next (w + 1) ⟨by omega, fun v h0 h1 h2 h3 => ?_⟩ (by first | omega | (simp only; omega)) (fun s hs => hs.tl [0, 1] 2)
              by_cases q : v < w
              · exact hbal v h0 q h2 h3
              · have e : v = w := by omega
                subst e
                first | contradiction | assumption | omega
          · try simp only [cnd] at hg61
            refine WXL.miss (j := 2) (d := 61) rfl rfl rfl ?_
            refine WXL.miss (j := 2) (d := 61) rfl rfl rfl ?_
            refine WXL.miss (j := 2) (d := 61) rfl rfl rfl ?_
            refine WXL.miss (j := 2) (d := 61) rfl rfl rfl ?_
            refine WXL.pick_f Met.none rfl rfl ?_
            refine WXL.move Met.none rfl ?_
            refine WXL.miss (j := 8) (d := 67) rfl rfl rfl ?_
            refine WXL.miss (j := 8) (d := 67) rfl rfl rfl ?_
            refine WXL.miss (j := 8) (d := 67) rfl rfl rfl ?_
            refine WXL.miss (j := 8) (d := 67) rfl rfl rfl ?_
            refine WXL.pick_f Met.none rfl rfl ?_
            refine WXL.nil ?_
            refine Fin.then_normal ?_
            refine WX.cond rfl (fun hc5 => nomatch hc5) (fun hc5 => ?_)
            refine WX.skip ?_
            refine Fin.block_normal ?_
            refine Fin.then_normal ?_
            refine WX.region rfl ?_
            refine WXL.bin Met.none rfl rfl bvA ?_
            refine WXL.move Met.none rfl ?_
            refine WXL.nil ?_
            refine Fin.loop_next (w + 1) ⟨by omega, fun v h0 h1 h2 h3 => ?_⟩ (by first | omega | (simp only; omega)) (fun s hs => hs.tl [0, 1] 2)
            by_cases q : v < w
            · exact hbal v h0 q h2 h3
            · have e : v = w := by omega
              subst e
              first | contradiction | assumption | omega
        · try simp only [cnd] at hc4
          refine WX.exit ?_
          refine Fin.then_exit ?_
          refine Fin.loop_exit ?_
          refine Fin.block_hit rfl ?_
          refine Fin.then_normal ?_
          refine WX.seq ?_
          have hat : nth (outs n (netOut n f)) n.source.toNat = netOut n f n.source := outs_nth n (netOut n f) hns.1 hns.2
          refine WX.region rfl ?_
          refine WXL.move Met.none rfl ?_
          refine WXL.fieldAddr (off' := 1) Met.none rfl Try.underlying36 rfl sz3 rfl ?_
          first | refine WXL.ld Met.none rfl agg3 ?_ | refine WXL.ldS Met.none rfl agg3 ?_
          first | refine WXL.ix Met.none rfl rfl elem22 sz3 ?_ | refine WXL.ixS Met.none rfl rfl elem22 sz3 ?_
          first | refine WXL.ld Met.none rfl agg3 ?_ | refine WXL.ldS Met.none rfl agg3 ?_
          rw [hat]
          refine WXL.assign Met.none rfl ?_
          refine WXL.assign Met.none rfl ?_
          refine WXL.nil ?_
          refine Fin.then_normal ?_
          refine WX.ret ?_
          refine Fin.result (O' := O) (.inr rfl) rfl rfl drop_ ⟨_, _, rfl, ?_, rfl⟩
          first
          | exact ⟨k, hk, fun _ => ⟨rfl, rfl⟩, fun e => absurd e hc0⟩
          | exact ⟨0, hk, fun e => absurd rfl e, fun _ => .inr ⟨fun q => absurd q.1.len (by omega), rfl, rfl⟩⟩
          | exact ⟨0, hk, fun e => absurd rfl e, fun _ => .inr ⟨fun q => by have := q.1.cap j (by omega); omega, rfl, rfl⟩⟩
          | exact ⟨0, hk, fun e => absurd rfl e, fun _ => .inr ⟨fun q => absurd (q.2 w (by omega) (by omega) (by first | assumption | omega) (by first | assumption | omega)) (by first | assumption | omega), rfl, rfl⟩⟩
          | exact ⟨0, hk, fun e => absurd rfl e, fun _ => .inl ⟨⟨hfl, fun v h0 h1 h2 h3 => hbal v h0 (by omega) h2 h3⟩, rfl, rfl⟩⟩

end Go.Proofs.Ytjmklialkjncaaa.Eng
