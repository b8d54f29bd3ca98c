/- The operations that a list of numbers stands for. | An operation on either disk. | Two disks that are made alike. | Both disks are found in one state. | The reference's Rot; a turned bit turns the hash. | The hash's step. | Words of bytes, in plain lists. | Words of bytes: the iterator, walked. | The words' closure. | Words of a string: the iterator, walked. | The hash. | The hash of bytes. | One byte turned turns the hash, in plain lists. | The law DiskHash, walked. | The law DiskCopies, walked. | The law DiskDurable, walked. | The law DiskRots, walked. Own work; no condition. -/
import Derived.Test.YtahaplbdhgfobaaDiskRotsM1
import Derived.Test.YtahaplbdhgfobaaDiskRotsM2
import Derived.Test.YtahaplbdhgfobaaDiskRotsM3
import Derived.Test.YtahaplbdhgfobaaDiskRotsM4
set_option linter.unusedVariables false
set_option linter.unusedSimpArgs false
set_option maxRecDepth 8000
namespace Go.Proofs.Ytahaplbdhgfobaa.Eng
theorem tdiv64 {x : Int} (h : In64 x) : In64 (x.tdiv 16) := by
 unfold In64 at h ⊢
 rcases Int.le_total 0 x with q | q
 · rw [Int.tdiv_eq_ediv_of_nonneg q]; omega
 · have : x.tdiv 16 = -((-x).tdiv 16) := by rw [← Int.neg_tdiv, Int.neg_neg]
   rw [this, Int.tdiv_eq_ediv_of_nonneg (by omega)]
   omega
theorem Rowy.one {O : Objs} {b : Nat} {y : Ent} {n : Nat} (hk : Knows O b y) (h1 : y.sz = 1) (hl : y.c.length = n) : Rowy O 1 (some ⟨b, 0, none⟩) n y.c :=
 .inr ⟨b, 0, y, rfl, hk, h1, by omega, by rw [Nat.mul_one, List.drop_zero, ← hl, List.take_length]⟩
theorem ops_snoc {ops : List OpV} {N : Objs} {o : OpV} (X : Objs) (hok : ∀ o ∈ ops, OpK N o) (h : OpK (X ++ N) o) : ∀ o' ∈ ops ++ [o], OpK (X ++ N) o' := fun o' ho => by
 rcases List.mem_append.1 ho with q | q
 · exact (hok o' q).app
 · rw [List.mem_singleton.1 q]; exact h
theorem grow_op {ops : List OpV} {a : Option Addr} {c : Nat} {G : Objs} (o : OpV) (h : Grow 5 a (ops.length + 1) c (flat encV ops ++ encV o) G) : Grow 5 a (ops ++ [o]).length c (flat encV (ops ++ [o])) G := by
 rw [List.length_append, flat_append]
 have hE : flat encV [o] = encV o := by simp [flat]
 rw [hE]
 exact h
theorem ops_next {i : Nat} {ops : List OpV} {a : Option Addr} {c : Nat} {G N : Objs} {ll : Nat} (X : Objs) (o : OpV) (h1 : i < 16) (h2 : i < ll) (hol : ops.length = i) (h : Grow 5 a (ops.length + 1) c (flat encV ops ++ encV o) G) (hok : ∀ o ∈ ops, OpK N o) (h3 : OpK (X ++ N) o) :
  i + 1 ≤ 16 ∧ i + 1 ≤ ll ∧ (ops ++ [o]).length = i + 1 ∧ Grow 5 a (ops ++ [o]).length c (flat encV (ops ++ [o])) G ∧ ∀ o' ∈ ops ++ [o], OpK (X ++ N) o' :=
 ⟨h1, h2, by rw [List.length_append, hol]; rfl, grow_op o h, ops_snoc X hok h3⟩
set_option maxHeartbeats 4000000 in
theorem ops_ok (O : Objs) (l : List Int) (a : Option Addr) (c : Nat) (hlen : Short l) (h64 : ∀ x ∈ l, In64 x) (hl : Src O 1 (.slice a l.length c) l.length (l.map I)) :
  Spec Try.prog false 23 #[.slice a l.length c] O fun v O' => ∃ a' c' ops G N, v = .slice a' ops.length c' ∧ Grow 5 a' ops.length c' (flat encV ops) G ∧ O' = G ++ (N ++ O) ∧ ops.length ≤ 16 ∧ ∀ o ∈ ops, OpK N o := by
 unfold Short at hlen
 refine Spec.enter (args := [_]) (m := 112) Try.func23 rfl rfl (by decide +kernel) fun h0 => ?_
 refine WX.seq ?_
 refine WX.region rfl ?_
 refine WXL.assign Met.none rfl ?_
 refine WXL.nil ?_
 refine Fin.then_normal ?_
 refine WX.seq ?_
 refine WX.region rfl ?_
 refine WXL.assign Met.none rfl ?_
 refine WXL.nil ?_
 refine Fin.then_normal ?_
 refine WX.seq ?_
 refine WX.seq ?_
 refine WX.region rfl ?_
 refine WXL.assign Met.none rfl ?_
 refine WXL.nil ?_
 refine Fin.then_normal ?_
 refine WX.block ?_
 refine WX.re (O' := [] ++ ([] ++ O)) ?_
 refine WX.loop (fun q : OpsS => [(0, .slice a l.length c), (3, .slice q.a q.ops.length q.c), (4, I (q.i : Int))]) (fun q => q.G ++ (q.N ++ O)) (fun q => q.i ≤ 16 ∧ q.i ≤ l.length ∧ q.ops.length = q.i ∧ Grow 5 q.a q.ops.length q.c (flat encV q.ops) q.G ∧ ∀ o ∈ q.ops, OpK q.N o) (fun q => 16 - q.i) ⟨0, [], none, 0, [], []⟩ ⟨Nat.zero_le _, Nat.zero_le _, rfl, .nil, fun o ho => by simp at ho⟩ (fun s hs => hs.tl [] 0) (fun q hq => ?_)
 obtain ⟨i, ops, a3, c3, G, N⟩ := q
 obtain ⟨hi16, hil, hol, hG, hok⟩ := hq
 simp only at hi16 hil hol hG hok
 dsimp only
 have hlS : Src (G ++ (N ++ O)) 1 (.slice a l.length c) l.length (l.map I) := Src.app (Src.app hl)
 refine WX.seq ?_
 refine WX.seq ?_
 refine WX.region rfl ?_
 refine WXL.move Met.none rfl ?_
 refine WXL.move Met.none rfl ?_
 refine WXL.len Met.none rfl Try.underlying33 ?_
 refine WXL.bin Met.none rfl rfl rfl ?_
 refine WXL.move Met.none rfl ?_
 refine WXL.split (d := 12) rfl (fun hg12 => ?_) (fun hg12 => ?_)
 · try simp only [cnd] at hg12
   refine WXL.move (Met.some rfl rfl rfl) rfl ?_
   refine WXL.bin (Met.some rfl rfl rfl) rfl rfl rfl ?_
   refine WXL.pick_t Met.none rfl rfl ?_
   refine WXL.nil ?_
   refine Fin.then_normal ?_
   refine WX.cond rfl (fun hc0 => ?_) (fun hc0 => ?_)
   · try simp only [cnd] at hc0
     refine WX.skip ?_
     refine Fin.then_normal ?_
     refine WX.seq ?_
     refine WX.block ?_
     refine WX.seq ?_
     have hil2 : i < l.length := by omega
     have hx64 := h64 _ (nth_mem hil2)
     have hq64 := tdiv64 hx64
     obtain ⟨n, hn⟩ : ∃ n, n = around ((nth l i).tdiv 16) 4096 := ⟨_, rfl⟩
     have hnr : 0 ≤ n ∧ n < 4096 := hn ▸ around_range (by decide)
     obtain ⟨sw, hsw⟩ : ∃ sw, sw = around (nth l i) 16 := ⟨_, rfl⟩
     have tm : ∀ x k : Int, 0 ≤ x → x.tmod k = x % k := fun x k h => Int.tmod_eq_emod_of_nonneg h
     have td : ∀ x k : Int, 0 ≤ x → x.tdiv k = x / k := fun x k h => Int.tdiv_eq_ediv_of_nonneg h
     have f1 := tm n 3 hnr.1
     have f2 := td n 3 hnr.1
     have f3 := tm (n.tdiv 3) 9 (by omega)
     have f4 := tm (n.tdiv 3) 7 (by omega)
     have f5 := td n 4 hnr.1
     have f6 := tm (n.tdiv 4) 40 (by omega)
     have f7 := tm n 5 hnr.1
     have f8 := td n 5 hnr.1
     have f9 := tm (n.tdiv 5) 5 (by omega)
     have f10 := td n 25 hnr.1
     have f11 := tm (n.tdiv 25) 5 (by omega)
     have f12 := td n 125 hnr.1
     have f13 := tm (n.tdiv 125) 4 (by omega)
     have f14 := tm n 70 hnr.1
     obtain ⟨m, hm⟩ : ∃ m, m = ((n.tdiv 125).tmod 4).toNat := ⟨_, rfl⟩
     have hm3 : m ≤ 3 := by omega
     have hkl : ([n.tmod 5 - 1, (n.tdiv 5).tmod 5, (n.tdiv 25).tmod 5].take m).length = m := by rw [List.length_take]; show min m 3 = m; omega
     have hkl3 : ([n.tmod 5 - 1, (n.tdiv 5).tmod 5, (n.tdiv 25).tmod 5].take m).length ≤ 3 := by omega
     have hk64 : ∀ x ∈ [n.tmod 5 - 1, (n.tdiv 5).tmod 5, (n.tdiv 25).tmod 5].take m, In64 x := fun x hx => by
      have := List.mem_of_mem_take hx
      simp only [List.mem_cons, List.not_mem_nil, or_false] at this
      unfold In64
      rcases this with q | q | q <;> rw [q] <;> omega
     have hkrow : ∀ (R : Objs) {bb : Nat}, Knows R bb ⟨1, false, [I (n.tmod 5 - 1), Value.int .i64 ((n.tdiv 5).tmod 5), Value.int .i64 ((n.tdiv 25).tmod 5)]⟩ → Rowy R 1 (some ⟨bb, 0, none⟩) ([n.tmod 5 - 1, (n.tdiv 5).tmod 5, (n.tdiv 25).tmod 5].take m).length (([n.tmod 5 - 1, (n.tdiv 5).tmod 5, (n.tdiv 25).tmod 5].take m).map I) := fun R bb hk => by
      have h1 := (Rowy.one hk rfl rfl : Rowy R 1 (some ⟨bb, 0, none⟩) 3 _).pre (m := m) hm3
      rw [hkl, List.map_take]
      rw [Nat.mul_one] at h1
      exact h1
     have h1row : ∀ (R : Objs) {bb : Nat}, Knows R bb ⟨1, false, [Value.int .u8 1]⟩ → Rowy R 1 (some ⟨bb, 0, none⟩) ([1] : List Int).length (([1] : List Int).map B8) := fun R bb hk => (Rowy.one hk rfl rfl : Rowy R 1 (some ⟨bb, 0, none⟩) 1 _)
     have f15 := tm (n.tdiv 3) 6 (by omega)
     refine WX.region rfl ?_
     refine WXL.move Met.none rfl ?_
     refine WXL.move Met.none rfl ?_
     first | refine WXL.ix Met.none rfl rfl elem33 sz3 ?_ | refine WXL.ixS Met.none rfl rfl elem33 sz3 ?_
     first | refine WXL.ld Met.none rfl agg3 ?_ | refine WXL.ldS Met.none rfl agg3 ?_
     refine WXL.qu Met.none rfl rfl ?_ (hr := (wrap_i64 hq64.1 hq64.2))
     refine WXL.cl (O1 := _) Met.none rfl (fnOk_of Try.func12 (by decide +kernel)) rfl (fun _ h => h) (around_ok _ ((nth l i).tdiv 16) 4096 hq64 (by decide)) (fun v O' hp => ?_)
     obtain ⟨rfl, hO⟩ := hp
     subst O'
     rw [← hn]
     refine WXL.assign Met.none rfl ?_
     refine WXL.nil ?_
     refine Fin.then_normal ?_
     refine WX.seq ?_
     refine WX.region rfl ?_
     refine WXL.move Met.none rfl ?_
     refine WXL.rem Met.none rfl rfl (by omega) ?_
     refine WXL.build (c := [_, _, _, _, _]) Met.none rfl zero48 places48 rfl ?_
     refine WXL.alloc (c := [_, _, _, _, _]) Met.none zero48 rfl (fun b6 => ?_)
     refine WXL.st (vs := [_, _, _, _, _]) (c' := [_, _, _, _, _]) Met.none rfl rfl rfl sz48 ?_
     refine WXL.nil ?_
     refine Fin.then_normal ?_
     refine WX.seq ?_
     refine WX.seq ?_
     refine WX.region rfl ?_
     refine WXL.move Met.none rfl ?_
     refine WXL.move Met.none rfl ?_
     first | refine WXL.ix Met.none rfl rfl elem33 sz3 ?_ | refine WXL.ixS Met.none rfl rfl elem33 sz3 ?_
     first | refine WXL.ld Met.none rfl agg3 ?_ | refine WXL.ldS Met.none rfl agg3 ?_
     refine WXL.cl (O1 := _) Met.none rfl (fnOk_of Try.func12 (by decide +kernel)) rfl (fun _ h => h) (around_ok _ (nth l i) 16 hx64 (by decide)) (fun v O' hp => ?_)
     obtain ⟨rfl, hO⟩ := hp
     subst O'
     rw [← hsw]
     refine WXL.nil ?_
     refine Fin.then_normal ?_
     refine WX.block ?_
     refine WX.seq ?_
     refine WX.seq ?_
     refine WX.region rfl ?_
     refine WXL.bin Met.none rfl rfl rfl ?_
     refine WXL.assign Met.none rfl ?_
     refine WXL.nil ?_
     refine Fin.then_normal ?_
     refine WX.cond rfl (fun hc1 => ?_) (fun hc1 => ?_)
     · try simp only [cnd] at hc1
       rw [show decide (sw = 0) = true from decide_eq_true hc1]
       refine WX.skip ?_
       refine Fin.then_normal ?_
       refine WX.cond rfl (fun hc2 => ?_) (fun hc2 => nomatch hc2)
       refine WX.region rfl ?_
       refine WXL.fieldAddr (off' := 0) Met.none rfl Try.underlying48 rfl sz3 rfl ?_
       refine WXL.st (vs := [_]) (c' := [_, _, _, _, _]) Met.none rfl rfl rfl sz3 ?_
       refine WXL.nil ?_
       refine Fin.block_normal ?_
       refine Fin.then_normal ?_
       first
       | refine WX.re (O' := (b6, ⟨0, false, [Value.int .i64 0, Value.int .i64 (n.tmod 3), Value.int .i64 0, .slice a7 xs.length c7, .slice none 0 0]⟩) :: (G ++ ((G7 ++ N) ++ O))) ?_
       | refine WX.re (O' := (b6, ⟨0, false, [Value.int .i64 0, I (n.tmod 70 - 3), Value.int .i64 0, Row b105 0 1 1, .slice none 0 0]⟩) :: (G ++ (([(b105, ⟨1, false, [Value.int .u8 1]⟩)] ++ N) ++ O))) ?_
       | refine WX.re (O' := (b6, ⟨0, false, [Value.int .i64 4, Value.int .i64 (n.tmod 3), I ((n.tdiv 4).tmod 40 - 4), .slice none 0 0, .slice (some ⟨b90, 0, none⟩) m m]⟩) :: (G ++ (([(b90, ⟨1, false, [I (n.tmod 5 - 1), Value.int .i64 ((n.tdiv 5).tmod 5), Value.int .i64 ((n.tdiv 25).tmod 5)]⟩)] ++ N) ++ O))) ?_
       | skip
       refine WX.region rfl ?_
       refine WXL.move Met.none rfl ?_
       refine WXL.ldN (vs := [_, _, _, _, _]) Met.none rfl agg48 sz48 ?_
       refine WXL.buildSlice (c := [_, _, _, _, _]) Met.none rfl elem44 sz48 zero48 (by decide) (by decide) rfl rfl rfl rfl (fun b109 => ?_)
       refine WXL.apG [_, _] Met.none rfl rfl isrow44 elem44 sz48 by48 zero48 (Src.lit (cs := [_, _, _, _, _])) (fun a110 c110 G110 hG110 => ?_)
       refine WXL.assign Met.none rfl ?_
       refine WXL.nil ?_
       refine Fin.block_normal ?_
       refine Fin.then_normal ?_
       first
       | refine WX.re (O' := G110 ++ ((G7 ++ N) ++ O)) ?_
       | refine WX.re (O' := G110 ++ (([(b105, ⟨1, false, [Value.int .u8 1]⟩)] ++ N) ++ O)) ?_
       | refine WX.re (O' := G110 ++ (([(b90, ⟨1, false, [I (n.tmod 5 - 1), Value.int .i64 ((n.tdiv 5).tmod 5), Value.int .i64 ((n.tdiv 25).tmod 5)]⟩)] ++ N) ++ O)) ?_
       | refine WX.re (O' := G110 ++ (([] ++ N) ++ O)) ?_
       refine WX.region rfl ?_
       refine WXL.move Met.none rfl ?_
       refine WXL.bin Met.none rfl rfl bvA ?_
       refine WXL.assign Met.none rfl ?_
       refine WXL.nil ?_
       first
       | exact Fin.loop_next (⟨i + 1, ops ++ [(⟨0, n.tmod 3, 0, xs, [], a7, c7, none, 0⟩ : OpV)], a110, c110, G110, G7 ++ N⟩ : OpsS) (ops_next G7 (⟨0, n.tmod 3, 0, xs, [], a7, c7, none, 0⟩ : OpV) (by omega) (by omega) hol hG110 hok ⟨hG7.rowy, fun q => (hG7.nil0 q).1, hxB, by simp only; omega, nil_row, fun _ => rfl, Nat.zero_le _, (fun x hx => by simp at hx), ⟨by simp only; omega, by simp only; omega⟩, by simp only; omega⟩) (by simp only; omega) (fun s hs => by dsimp only; rw [List.length_append]; exact hs.tl [] 0)
       | exact Fin.loop_next (⟨i + 1, ops ++ [(⟨0, n.tmod 70 - 3, 0, [1], [], some ⟨b105, 0, none⟩, 1, none, 0⟩ : OpV)], a110, c110, G110, [(b105, ⟨1, false, [Value.int .u8 1]⟩)] ++ N⟩ : OpsS) (ops_next [(b105, ⟨1, false, [Value.int .u8 1]⟩)] (⟨0, n.tmod 70 - 3, 0, [1], [], some ⟨b105, 0, none⟩, 1, none, 0⟩ : OpV) (by omega) (by omega) hol hG110 hok ⟨h1row _ (Knows.at 0 rfl), (fun q => by cases q), (fun x hx => by rw [List.mem_singleton.1 hx]; decide), Nat.le_of_ble_eq_true rfl, nil_row, fun _ => rfl, Nat.zero_le _, (fun x hx => by simp at hx), ⟨by simp only; omega, by simp only; omega⟩, by simp only; omega⟩) (by simp only; omega) (fun s hs => by dsimp only; rw [List.length_append]; exact hs.tl [] 0)
       | exact Fin.loop_next (⟨i + 1, ops ++ [(⟨4, n.tmod 3, (n.tdiv 4).tmod 40 - 4, [], ([n.tmod 5 - 1, (n.tdiv 5).tmod 5, (n.tdiv 25).tmod 5].take m), none, 0, some ⟨b90, 0, none⟩, m⟩ : OpV)], a110, c110, G110, [(b90, ⟨1, false, [I (n.tmod 5 - 1), Value.int .i64 ((n.tdiv 5).tmod 5), Value.int .i64 ((n.tdiv 25).tmod 5)]⟩)] ++ N⟩ : OpsS) (ops_next [(b90, ⟨1, false, [I (n.tmod 5 - 1), Value.int .i64 ((n.tdiv 5).tmod 5), Value.int .i64 ((n.tdiv 25).tmod 5)]⟩)] (⟨4, n.tmod 3, (n.tdiv 4).tmod 40 - 4, [], ([n.tmod 5 - 1, (n.tdiv 5).tmod 5, (n.tdiv 25).tmod 5].take m), none, 0, some ⟨b90, 0, none⟩, m⟩ : OpV) (by omega) (by omega) hol (by unfold encV; simp only; rw [hkl]; exact hG110) hok ⟨nil_row, fun _ => rfl, (fun x hx => by simp at hx), Nat.zero_le _, hkrow _ (Knows.at 0 rfl), (fun q => by cases q), hkl3, hk64, ⟨by simp only; omega, by simp only; omega⟩, by simp only; omega⟩) (by simp only; omega) (fun s hs => by dsimp only; rw [List.length_append]; exact hs.tl [] 0)
       | exact Fin.loop_next (⟨i + 1, ops ++ [(⟨1, n.tmod 3, 0, [], [], none, 0, none, 0⟩ : OpV)], a110, c110, G110, [] ++ N⟩ : OpsS) (ops_next [] (⟨1, n.tmod 3, 0, [], [], none, 0, none, 0⟩ : OpV) (by omega) (by omega) hol hG110 hok ⟨nil_row, fun _ => rfl, (fun x hx => by simp at hx), Nat.zero_le _, nil_row, fun _ => rfl, Nat.zero_le _, (fun x hx => by simp at hx), ⟨by simp only; omega, by simp only; omega⟩, by simp only; omega⟩) (by simp only; omega) (fun s hs => by dsimp only; rw [List.length_append]; exact hs.tl [] 0)
       | exact Fin.loop_next (⟨i + 1, ops ++ [(⟨2, n.tmod 3, (n.tdiv 3).tmod 9 - 1, [], [], none, 0, none, 0⟩ : OpV)], a110, c110, G110, [] ++ N⟩ : OpsS) (ops_next [] (⟨2, n.tmod 3, (n.tdiv 3).tmod 9 - 1, [], [], none, 0, none, 0⟩ : OpV) (by omega) (by omega) hol hG110 hok ⟨nil_row, fun _ => rfl, (fun x hx => by simp at hx), Nat.zero_le _, nil_row, fun _ => rfl, Nat.zero_le _, (fun x hx => by simp at hx), ⟨by simp only; omega, by simp only; omega⟩, by simp only; omega⟩) (by simp only; omega) (fun s hs => by dsimp only; rw [List.length_append]; exact hs.tl [] 0)
       | exact Fin.loop_next (⟨i + 1, ops ++ [(⟨3, n.tmod 3, (n.tdiv 3).tmod 7 - 1, [], [], none, 0, none, 0⟩ : OpV)], a110, c110, G110, [] ++ N⟩ : OpsS) (ops_next [] (⟨3, n.tmod 3, (n.tdiv 3).tmod 7 - 1, [], [], none, 0, none, 0⟩ : OpV) (by omega) (by omega) hol hG110 hok ⟨nil_row, fun _ => rfl, (fun x hx => by simp at hx), Nat.zero_le _, nil_row, fun _ => rfl, Nat.zero_le _, (fun x hx => by simp at hx), ⟨by simp only; omega, by simp only; omega⟩, by simp only; omega⟩) (by simp only; omega) (fun s hs => by dsimp only; rw [List.length_append]; exact hs.tl [] 0)
     · try simp only [cnd] at hc1
       refine WX.region rfl ?_
       refine WXL.bin Met.none rfl rfl rfl ?_
       refine WXL.assign Met.none rfl ?_
       refine WXL.nil ?_
       refine Fin.then_normal ?_
       refine WX.cond rfl (fun hc2 => ?_) (fun hc2 => ?_)
       · try simp only [cnd] at hc2
         refine WX.region rfl ?_
         refine WXL.fieldAddr (off' := 0) Met.none rfl Try.underlying48 rfl sz3 rfl ?_
         refine WXL.st (vs := [_]) (c' := [_, _, _, _, _]) Met.none rfl rfl rfl sz3 ?_
         refine WXL.nil ?_
         refine Fin.block_normal ?_
         refine Fin.then_normal ?_
         first
         | refine WX.re (O' := (b6, ⟨0, false, [Value.int .i64 0, Value.int .i64 (n.tmod 3), Value.int .i64 0, .slice a7 xs.length c7, .slice none 0 0]⟩) :: (G ++ ((G7 ++ N) ++ O))) ?_
         | refine WX.re (O' := (b6, ⟨0, false, [Value.int .i64 0, I (n.tmod 70 - 3), Value.int .i64 0, Row b105 0 1 1, .slice none 0 0]⟩) :: (G ++ (([(b105, ⟨1, false, [Value.int .u8 1]⟩)] ++ N) ++ O))) ?_
         | refine WX.re (O' := (b6, ⟨0, false, [Value.int .i64 4, Value.int .i64 (n.tmod 3), I ((n.tdiv 4).tmod 40 - 4), .slice none 0 0, .slice (some ⟨b90, 0, none⟩) m m]⟩) :: (G ++ (([(b90, ⟨1, false, [I (n.tmod 5 - 1), Value.int .i64 ((n.tdiv 5).tmod 5), Value.int .i64 ((n.tdiv 25).tmod 5)]⟩)] ++ N) ++ O))) ?_
         | skip
         refine WX.region rfl ?_
         refine WXL.move Met.none rfl ?_
         refine WXL.ldN (vs := [_, _, _, _, _]) Met.none rfl agg48 sz48 ?_
         refine WXL.buildSlice (c := [_, _, _, _, _]) Met.none rfl elem44 sz48 zero48 (by decide) (by decide) rfl rfl rfl rfl (fun b109 => ?_)
         refine WXL.apG [_, _] Met.none rfl rfl isrow44 elem44 sz48 by48 zero48 (Src.lit (cs := [_, _, _, _, _])) (fun a110 c110 G110 hG110 => ?_)
         refine WXL.assign Met.none rfl ?_
         refine WXL.nil ?_
         refine Fin.block_normal ?_
         refine Fin.then_normal ?_
         first
         | refine WX.re (O' := G110 ++ ((G7 ++ N) ++ O)) ?_
         | refine WX.re (O' := G110 ++ (([(b105, ⟨1, false, [Value.int .u8 1]⟩)] ++ N) ++ O)) ?_
         | refine WX.re (O' := G110 ++ (([(b90, ⟨1, false, [I (n.tmod 5 - 1), Value.int .i64 ((n.tdiv 5).tmod 5), Value.int .i64 ((n.tdiv 25).tmod 5)]⟩)] ++ N) ++ O)) ?_
         | refine WX.re (O' := G110 ++ (([] ++ N) ++ O)) ?_
         refine WX.region rfl ?_
         refine WXL.move Met.none rfl ?_
         refine WXL.bin Met.none rfl rfl bvA ?_
         refine WXL.assign Met.none rfl ?_
         refine WXL.nil ?_
         first
         | exact Fin.loop_next (⟨i + 1, ops ++ [(⟨0, n.tmod 3, 0, xs, [], a7, c7, none, 0⟩ : OpV)], a110, c110, G110, G7 ++ N⟩ : OpsS) (ops_next G7 (⟨0, n.tmod 3, 0, xs, [], a7, c7, none, 0⟩ : OpV) (by omega) (by omega) hol hG110 hok ⟨hG7.rowy, fun q => (hG7.nil0 q).1, hxB, by simp only; omega, nil_row, fun _ => rfl, Nat.zero_le _, (fun x hx => by simp at hx), ⟨by simp only; omega, by simp only; omega⟩, by simp only; omega⟩) (by simp only; omega) (fun s hs => by dsimp only; rw [List.length_append]; exact hs.tl [] 0)
         | exact Fin.loop_next (⟨i + 1, ops ++ [(⟨0, n.tmod 70 - 3, 0, [1], [], some ⟨b105, 0, none⟩, 1, none, 0⟩ : OpV)], a110, c110, G110, [(b105, ⟨1, false, [Value.int .u8 1]⟩)] ++ N⟩ : OpsS) (ops_next [(b105, ⟨1, false, [Value.int .u8 1]⟩)] (⟨0, n.tmod 70 - 3, 0, [1], [], some ⟨b105, 0, none⟩, 1, none, 0⟩ : OpV) (by omega) (by omega) hol hG110 hok ⟨h1row _ (Knows.at 0 rfl), (fun q => by cases q), (fun x hx => by rw [List.mem_singleton.1 hx]; decide), Nat.le_of_ble_eq_true rfl, nil_row, fun _ => rfl, Nat.zero_le _, (fun x hx => by simp at hx), ⟨by simp only; omega, by simp only; omega⟩, by simp only; omega⟩) (by simp only; omega) (fun s hs => by dsimp only; rw [List.length_append]; exact hs.tl [] 0)
         | exact Fin.loop_next (⟨i + 1, ops ++ [(⟨4, n.tmod 3, (n.tdiv 4).tmod 40 - 4, [], ([n.tmod 5 - 1, (n.tdiv 5).tmod 5, (n.tdiv 25).tmod 5].take m), none, 0, some ⟨b90, 0, none⟩, m⟩ : OpV)], a110, c110, G110, [(b90, ⟨1, false, [I (n.tmod 5 - 1), Value.int .i64 ((n.tdiv 5).tmod 5), Value.int .i64 ((n.tdiv 25).tmod 5)]⟩)] ++ N⟩ : OpsS) (ops_next [(b90, ⟨1, false, [I (n.tmod 5 - 1), Value.int .i64 ((n.tdiv 5).tmod 5), Value.int .i64 ((n.tdiv 25).tmod 5)]⟩)] (⟨4, n.tmod 3, (n.tdiv 4).tmod 40 - 4, [], ([n.tmod 5 - 1, (n.tdiv 5).tmod 5, (n.tdiv 25).tmod 5].take m), none, 0, some ⟨b90, 0, none⟩, m⟩ : OpV) (by omega) (by omega) hol (by unfold encV; simp only; rw [hkl]; exact hG110) hok ⟨nil_row, fun _ => rfl, (fun x hx => by simp at hx), Nat.zero_le _, hkrow _ (Knows.at 0 rfl), (fun q => by cases q), hkl3, hk64, ⟨by simp only; omega, by simp only; omega⟩, by simp only; omega⟩) (by simp only; omega) (fun s hs => by dsimp only; rw [List.length_append]; exact hs.tl [] 0)
         | exact Fin.loop_next (⟨i + 1, ops ++ [(⟨1, n.tmod 3, 0, [], [], none, 0, none, 0⟩ : OpV)], a110, c110, G110, [] ++ N⟩ : OpsS) (ops_next [] (⟨1, n.tmod 3, 0, [], [], none, 0, none, 0⟩ : OpV) (by omega) (by omega) hol hG110 hok ⟨nil_row, fun _ => rfl, (fun x hx => by simp at hx), Nat.zero_le _, nil_row, fun _ => rfl, Nat.zero_le _, (fun x hx => by simp at hx), ⟨by simp only; omega, by simp only; omega⟩, by simp only; omega⟩) (by simp only; omega) (fun s hs => by dsimp only; rw [List.length_append]; exact hs.tl [] 0)
         | exact Fin.loop_next (⟨i + 1, ops ++ [(⟨2, n.tmod 3, (n.tdiv 3).tmod 9 - 1, [], [], none, 0, none, 0⟩ : OpV)], a110, c110, G110, [] ++ N⟩ : OpsS) (ops_next [] (⟨2, n.tmod 3, (n.tdiv 3).tmod 9 - 1, [], [], none, 0, none, 0⟩ : OpV) (by omega) (by omega) hol hG110 hok ⟨nil_row, fun _ => rfl, (fun x hx => by simp at hx), Nat.zero_le _, nil_row, fun _ => rfl, Nat.zero_le _, (fun x hx => by simp at hx), ⟨by simp only; omega, by simp only; omega⟩, by simp only; omega⟩) (by simp only; omega) (fun s hs => by dsimp only; rw [List.length_append]; exact hs.tl [] 0)
         | exact Fin.loop_next (⟨i + 1, ops ++ [(⟨3, n.tmod 3, (n.tdiv 3).tmod 7 - 1, [], [], none, 0, none, 0⟩ : OpV)], a110, c110, G110, [] ++ N⟩ : OpsS) (ops_next [] (⟨3, n.tmod 3, (n.tdiv 3).tmod 7 - 1, [], [], none, 0, none, 0⟩ : OpV) (by omega) (by omega) hol hG110 hok ⟨nil_row, fun _ => rfl, (fun x hx => by simp at hx), Nat.zero_le _, nil_row, fun _ => rfl, Nat.zero_le _, (fun x hx => by simp at hx), ⟨by simp only; omega, by simp only; omega⟩, by simp only; omega⟩) (by simp only; omega) (fun s hs => by dsimp only; rw [List.length_append]; exact hs.tl [] 0)
       · try simp only [cnd] at hc2
         refine WX.seq ?_
         refine WX.region rfl ?_
         refine WXL.bin Met.none rfl rfl rfl ?_
         refine WXL.assign Met.none rfl ?_
         refine WXL.nil ?_
         refine Fin.then_normal ?_
         refine WX.cond rfl (fun hc3 => ?_) (fun hc3 => ?_)
         · try simp only [cnd] at hc3
           refine WX.seq ?_
           refine WX.region rfl ?_
           refine WXL.fieldAddr (off' := 0) Met.none rfl Try.underlying48 rfl sz3 rfl ?_
           refine WXL.st (vs := [_]) (c' := [_, _, _, _, _]) Met.none rfl rfl rfl sz3 ?_
           refine WXL.nil ?_
           refine Fin.then_normal ?_
           refine WX.region rfl ?_
           refine WXL.move Met.none rfl ?_
           refine WXL.qu Met.none rfl rfl ?_
           refine WXL.rem Met.none rfl rfl (by omega) ?_
           refine WXL.bin Met.none rfl rfl bvS ?_
           refine WXL.fieldAddr (off' := 2) Met.none rfl Try.underlying48 rfl sz3 rfl ?_
           refine WXL.st (vs := [_]) (c' := [_, _, _, _, _]) Met.none rfl rfl rfl sz3 ?_
           refine WXL.nil ?_
           refine Fin.block_normal ?_
           refine Fin.then_normal ?_
           first
           | refine WX.re (O' := (b6, ⟨0, false, [Value.int .i64 0, Value.int .i64 (n.tmod 3), Value.int .i64 0, .slice a7 xs.length c7, .slice none 0 0]⟩) :: (G ++ ((G7 ++ N) ++ O))) ?_
           | refine WX.re (O' := (b6, ⟨0, false, [Value.int .i64 0, I (n.tmod 70 - 3), Value.int .i64 0, Row b105 0 1 1, .slice none 0 0]⟩) :: (G ++ (([(b105, ⟨1, false, [Value.int .u8 1]⟩)] ++ N) ++ O))) ?_
           | refine WX.re (O' := (b6, ⟨0, false, [Value.int .i64 4, Value.int .i64 (n.tmod 3), I ((n.tdiv 4).tmod 40 - 4), .slice none 0 0, .slice (some ⟨b90, 0, none⟩) m m]⟩) :: (G ++ (([(b90, ⟨1, false, [I (n.tmod 5 - 1), Value.int .i64 ((n.tdiv 5).tmod 5), Value.int .i64 ((n.tdiv 25).tmod 5)]⟩)] ++ N) ++ O))) ?_
           | skip
           refine WX.region rfl ?_
           refine WXL.move Met.none rfl ?_
           refine WXL.ldN (vs := [_, _, _, _, _]) Met.none rfl agg48 sz48 ?_
           refine WXL.buildSlice (c := [_, _, _, _, _]) Met.none rfl elem44 sz48 zero48 (by decide) (by decide) rfl rfl rfl rfl (fun b109 => ?_)
           refine WXL.apG [_, _] Met.none rfl rfl isrow44 elem44 sz48 by48 zero48 (Src.lit (cs := [_, _, _, _, _])) (fun a110 c110 G110 hG110 => ?_)
           refine WXL.assign Met.none rfl ?_
           refine WXL.nil ?_
           refine Fin.block_normal ?_
           refine Fin.then_normal ?_
           first
           | refine WX.re (O' := G110 ++ ((G7 ++ N) ++ O)) ?_
           | refine WX.re (O' := G110 ++ (([(b105, ⟨1, false, [Value.int .u8 1]⟩)] ++ N) ++ O)) ?_
           | refine WX.re (O' := G110 ++ (([(b90, ⟨1, false, [I (n.tmod 5 - 1), Value.int .i64 ((n.tdiv 5).tmod 5), Value.int .i64 ((n.tdiv 25).tmod 5)]⟩)] ++ N) ++ O)) ?_
           | refine WX.re (O' := G110 ++ (([] ++ N) ++ O)) ?_
           refine WX.region rfl ?_
           refine WXL.move Met.none rfl ?_
           refine WXL.bin Met.none rfl rfl bvA ?_
           refine WXL.assign Met.none rfl ?_
           refine WXL.nil ?_
           first
           | exact Fin.loop_next (⟨i + 1, ops ++ [(⟨0, n.tmod 3, 0, xs, [], a7, c7, none, 0⟩ : OpV)], a110, c110, G110, G7 ++ N⟩ : OpsS) (ops_next G7 (⟨0, n.tmod 3, 0, xs, [], a7, c7, none, 0⟩ : OpV) (by omega) (by omega) hol hG110 hok ⟨hG7.rowy, fun q => (hG7.nil0 q).1, hxB, by simp only; omega, nil_row, fun _ => rfl, Nat.zero_le _, (fun x hx => by simp at hx), ⟨by simp only; omega, by simp only; omega⟩, by simp only; omega⟩) (by simp only; omega) (fun s hs => by dsimp only; rw [List.length_append]; exact hs.tl [] 0)
           | exact Fin.loop_next (⟨i + 1, ops ++ [(⟨0, n.tmod 70 - 3, 0, [1], [], some ⟨b105, 0, none⟩, 1, none, 0⟩ : OpV)], a110, c110, G110, [(b105, ⟨1, false, [Value.int .u8 1]⟩)] ++ N⟩ : OpsS) (ops_next [(b105, ⟨1, false, [Value.int .u8 1]⟩)] (⟨0, n.tmod 70 - 3, 0, [1], [], some ⟨b105, 0, none⟩, 1, none, 0⟩ : OpV) (by omega) (by omega) hol hG110 hok ⟨h1row _ (Knows.at 0 rfl), (fun q => by cases q), (fun x hx => by rw [List.mem_singleton.1 hx]; decide), Nat.le_of_ble_eq_true rfl, nil_row, fun _ => rfl, Nat.zero_le _, (fun x hx => by simp at hx), ⟨by simp only; omega, by simp only; omega⟩, by simp only; omega⟩) (by simp only; omega) (fun s hs => by dsimp only; rw [List.length_append]; exact hs.tl [] 0)
           | exact Fin.loop_next (⟨i + 1, ops ++ [(⟨4, n.tmod 3, (n.tdiv 4).tmod 40 - 4, [], ([n.tmod 5 - 1, (n.tdiv 5).tmod 5, (n.tdiv 25).tmod 5].take m), none, 0, some ⟨b90, 0, none⟩, m⟩ : OpV)], a110, c110, G110, [(b90, ⟨1, false, [I (n.tmod 5 - 1), Value.int .i64 ((n.tdiv 5).tmod 5), Value.int .i64 ((n.tdiv 25).tmod 5)]⟩)] ++ N⟩ : OpsS) (ops_next [(b90, ⟨1, false, [I (n.tmod 5 - 1), Value.int .i64 ((n.tdiv 5).tmod 5), Value.int .i64 ((n.tdiv 25).tmod 5)]⟩)] (⟨4, n.tmod 3, (n.tdiv 4).tmod 40 - 4, [], ([n.tmod 5 - 1, (n.tdiv 5).tmod 5, (n.tdiv 25).tmod 5].take m), none, 0, some ⟨b90, 0, none⟩, m⟩ : OpV) (by omega) (by omega) hol (by unfold encV; simp only; rw [hkl]; exact hG110) hok ⟨nil_row, fun _ => rfl, (fun x hx => by simp at hx), Nat.zero_le _, hkrow _ (Knows.at 0 rfl), (fun q => by cases q), hkl3, hk64, ⟨by simp only; omega, by simp only; omega⟩, by simp only; omega⟩) (by simp only; omega) (fun s hs => by dsimp only; rw [List.length_append]; exact hs.tl [] 0)
           | exact Fin.loop_next (⟨i + 1, ops ++ [(⟨1, n.tmod 3, 0, [], [], none, 0, none, 0⟩ : OpV)], a110, c110, G110, [] ++ N⟩ : OpsS) (ops_next [] (⟨1, n.tmod 3, 0, [], [], none, 0, none, 0⟩ : OpV) (by omega) (by omega) hol hG110 hok ⟨nil_row, fun _ => rfl, (fun x hx => by simp at hx), Nat.zero_le _, nil_row, fun _ => rfl, Nat.zero_le _, (fun x hx => by simp at hx), ⟨by simp only; omega, by simp only; omega⟩, by simp only; omega⟩) (by simp only; omega) (fun s hs => by dsimp only; rw [List.length_append]; exact hs.tl [] 0)
           | exact Fin.loop_next (⟨i + 1, ops ++ [(⟨2, n.tmod 3, (n.tdiv 3).tmod 9 - 1, [], [], none, 0, none, 0⟩ : OpV)], a110, c110, G110, [] ++ N⟩ : OpsS) (ops_next [] (⟨2, n.tmod 3, (n.tdiv 3).tmod 9 - 1, [], [], none, 0, none, 0⟩ : OpV) (by omega) (by omega) hol hG110 hok ⟨nil_row, fun _ => rfl, (fun x hx => by simp at hx), Nat.zero_le _, nil_row, fun _ => rfl, Nat.zero_le _, (fun x hx => by simp at hx), ⟨by simp only; omega, by simp only; omega⟩, by simp only; omega⟩) (by simp only; omega) (fun s hs => by dsimp only; rw [List.length_append]; exact hs.tl [] 0)
           | exact Fin.loop_next (⟨i + 1, ops ++ [(⟨3, n.tmod 3, (n.tdiv 3).tmod 7 - 1, [], [], none, 0, none, 0⟩ : OpV)], a110, c110, G110, [] ++ N⟩ : OpsS) (ops_next [] (⟨3, n.tmod 3, (n.tdiv 3).tmod 7 - 1, [], [], none, 0, none, 0⟩ : OpV) (by omega) (by omega) hol hG110 hok ⟨nil_row, fun _ => rfl, (fun x hx => by simp at hx), Nat.zero_le _, nil_row, fun _ => rfl, Nat.zero_le _, (fun x hx => by simp at hx), ⟨by simp only; omega, by simp only; omega⟩, by simp only; omega⟩) (by simp only; omega) (fun s hs => by dsimp only; rw [List.length_append]; exact hs.tl [] 0)
         · try simp only [cnd] at hc3
           refine WX.seq ?_
           refine WX.region rfl ?_
           refine WXL.bin Met.none rfl rfl rfl ?_
           refine WXL.assign Met.none rfl ?_
           refine WXL.nil ?_
           refine Fin.then_normal ?_
           refine WX.cond rfl (fun hc4 => ?_) (fun hc4 => ?_)
           · try simp only [cnd] at hc4
             refine WX.seq ?_
             refine WX.region rfl ?_
             refine WXL.fieldAddr (off' := 0) Met.none rfl Try.underlying48 rfl sz3 rfl ?_
             refine WXL.st (vs := [_]) (c' := [_, _, _, _, _]) Met.none rfl rfl rfl sz3 ?_
             refine WXL.nil ?_
             refine Fin.then_normal ?_
             refine WX.region rfl ?_
             refine WXL.move Met.none rfl ?_
             refine WXL.qu Met.none rfl rfl ?_
             refine WXL.rem Met.none rfl rfl (by omega) ?_
             refine WXL.bin Met.none rfl rfl bvS ?_
             refine WXL.fieldAddr (off' := 2) Met.none rfl Try.underlying48 rfl sz3 rfl ?_
             refine WXL.st (vs := [_]) (c' := [_, _, _, _, _]) Met.none rfl rfl rfl sz3 ?_
             refine WXL.nil ?_
             refine Fin.block_normal ?_
             refine Fin.then_normal ?_
             first
             | refine WX.re (O' := (b6, ⟨0, false, [Value.int .i64 0, Value.int .i64 (n.tmod 3), Value.int .i64 0, .slice a7 xs.length c7, .slice none 0 0]⟩) :: (G ++ ((G7 ++ N) ++ O))) ?_
             | refine WX.re (O' := (b6, ⟨0, false, [Value.int .i64 0, I (n.tmod 70 - 3), Value.int .i64 0, Row b105 0 1 1, .slice none 0 0]⟩) :: (G ++ (([(b105, ⟨1, false, [Value.int .u8 1]⟩)] ++ N) ++ O))) ?_
             | refine WX.re (O' := (b6, ⟨0, false, [Value.int .i64 4, Value.int .i64 (n.tmod 3), I ((n.tdiv 4).tmod 40 - 4), .slice none 0 0, .slice (some ⟨b90, 0, none⟩) m m]⟩) :: (G ++ (([(b90, ⟨1, false, [I (n.tmod 5 - 1), Value.int .i64 ((n.tdiv 5).tmod 5), Value.int .i64 ((n.tdiv 25).tmod 5)]⟩)] ++ N) ++ O))) ?_
             | skip
             refine WX.region rfl ?_
             refine WXL.move Met.none rfl ?_
             refine WXL.ldN (vs := [_, _, _, _, _]) Met.none rfl agg48 sz48 ?_
             refine WXL.buildSlice (c := [_, _, _, _, _]) Met.none rfl elem44 sz48 zero48 (by decide) (by decide) rfl rfl rfl rfl (fun b109 => ?_)
             refine WXL.apG [_, _] Met.none rfl rfl isrow44 elem44 sz48 by48 zero48 (Src.lit (cs := [_, _, _, _, _])) (fun a110 c110 G110 hG110 => ?_)
             refine WXL.assign Met.none rfl ?_
             refine WXL.nil ?_
             refine Fin.block_normal ?_
             refine Fin.then_normal ?_
             first
             | refine WX.re (O' := G110 ++ ((G7 ++ N) ++ O)) ?_
             | refine WX.re (O' := G110 ++ (([(b105, ⟨1, false, [Value.int .u8 1]⟩)] ++ N) ++ O)) ?_
             | refine WX.re (O' := G110 ++ (([(b90, ⟨1, false, [I (n.tmod 5 - 1), Value.int .i64 ((n.tdiv 5).tmod 5), Value.int .i64 ((n.tdiv 25).tmod 5)]⟩)] ++ N) ++ O)) ?_
             | refine WX.re (O' := G110 ++ (([] ++ N) ++ O)) ?_
             refine WX.region rfl ?_
             refine WXL.move Met.none rfl ?_
             refine WXL.bin Met.none rfl rfl bvA ?_
             refine WXL.assign Met.none rfl ?_
             refine WXL.nil ?_
             first
             | exact Fin.loop_next (⟨i + 1, ops ++ [(⟨0, n.tmod 3, 0, xs, [], a7, c7, none, 0⟩ : OpV)], a110, c110, G110, G7 ++ N⟩ : OpsS) (ops_next G7 (⟨0, n.tmod 3, 0, xs, [], a7, c7, none, 0⟩ : OpV) (by omega) (by omega) hol hG110 hok ⟨hG7.rowy, fun q => (hG7.nil0 q).1, hxB, by simp only; omega, nil_row, fun _ => rfl, Nat.zero_le _, (fun x hx => by simp at hx), ⟨by simp only; omega, by simp only; omega⟩, by simp only; omega⟩) (by simp only; omega) (fun s hs => by dsimp only; rw [List.length_append]; exact hs.tl [] 0)
             | exact Fin.loop_next (⟨i + 1, ops ++ [(⟨0, n.tmod 70 - 3, 0, [1], [], some ⟨b105, 0, none⟩, 1, none, 0⟩ : OpV)], a110, c110, G110, [(b105, ⟨1, false, [Value.int .u8 1]⟩)] ++ N⟩ : OpsS) (ops_next [(b105, ⟨1, false, [Value.int .u8 1]⟩)] (⟨0, n.tmod 70 - 3, 0, [1], [], some ⟨b105, 0, none⟩, 1, none, 0⟩ : OpV) (by omega) (by omega) hol hG110 hok ⟨h1row _ (Knows.at 0 rfl), (fun q => by cases q), (fun x hx => by rw [List.mem_singleton.1 hx]; decide), Nat.le_of_ble_eq_true rfl, nil_row, fun _ => rfl, Nat.zero_le _, (fun x hx => by simp at hx), ⟨by simp only; omega, by simp only; omega⟩, by simp only; omega⟩) (by simp only; omega) (fun s hs => by dsimp only; rw [List.length_append]; exact hs.tl [] 0)
             | exact Fin.loop_next (⟨i + 1, ops ++ [(⟨4, n.tmod 3, (n.tdiv 4).tmod 40 - 4, [], ([n.tmod 5 - 1, (n.tdiv 5).tmod 5, (n.tdiv 25).tmod 5].take m), none, 0, some ⟨b90, 0, none⟩, m⟩ : OpV)], a110, c110, G110, [(b90, ⟨1, false, [I (n.tmod 5 - 1), Value.int .i64 ((n.tdiv 5).tmod 5), Value.int .i64 ((n.tdiv 25).tmod 5)]⟩)] ++ N⟩ : OpsS) (ops_next [(b90, ⟨1, false, [I (n.tmod 5 - 1), Value.int .i64 ((n.tdiv 5).tmod 5), Value.int .i64 ((n.tdiv 25).tmod 5)]⟩)] (⟨4, n.tmod 3, (n.tdiv 4).tmod 40 - 4, [], ([n.tmod 5 - 1, (n.tdiv 5).tmod 5, (n.tdiv 25).tmod 5].take m), none, 0, some ⟨b90, 0, none⟩, m⟩ : OpV) (by omega) (by omega) hol (by unfold encV; simp only; rw [hkl]; exact hG110) hok ⟨nil_row, fun _ => rfl, (fun x hx => by simp at hx), Nat.zero_le _, hkrow _ (Knows.at 0 rfl), (fun q => by cases q), hkl3, hk64, ⟨by simp only; omega, by simp only; omega⟩, by simp only; omega⟩) (by simp only; omega) (fun s hs => by dsimp only; rw [List.length_append]; exact hs.tl [] 0)
             | exact Fin.loop_next (⟨i + 1, ops ++ [(⟨1, n.tmod 3, 0, [], [], none, 0, none, 0⟩ : OpV)], a110, c110, G110, [] ++ N⟩ : OpsS) (ops_next [] (⟨1, n.tmod 3, 0, [], [], none, 0, none, 0⟩ : OpV) (by omega) (by omega) hol hG110 hok ⟨nil_row, fun _ => rfl, (fun x hx => by simp at hx), Nat.zero_le _, nil_row, fun _ => rfl, Nat.zero_le _, (fun x hx => by simp at hx), ⟨by simp only; omega, by simp only; omega⟩, by simp only; omega⟩) (by simp only; omega) (fun s hs => by dsimp only; rw [List.length_append]; exact hs.tl [] 0)
             | exact Fin.loop_next (⟨i + 1, ops ++ [(⟨2, n.tmod 3, (n.tdiv 3).tmod 9 - 1, [], [], none, 0, none, 0⟩ : OpV)], a110, c110, G110, [] ++ N⟩ : OpsS) (ops_next [] (⟨2, n.tmod 3, (n.tdiv 3).tmod 9 - 1, [], [], none, 0, none, 0⟩ : OpV) (by omega) (by omega) hol hG110 hok ⟨nil_row, fun _ => rfl, (fun x hx => by simp at hx), Nat.zero_le _, nil_row, fun _ => rfl, Nat.zero_le _, (fun x hx => by simp at hx), ⟨by simp only; omega, by simp only; omega⟩, by simp only; omega⟩) (by simp only; omega) (fun s hs => by dsimp only; rw [List.length_append]; exact hs.tl [] 0)
             | exact Fin.loop_next (⟨i + 1, ops ++ [(⟨3, n.tmod 3, (n.tdiv 3).tmod 7 - 1, [], [], none, 0, none, 0⟩ : OpV)], a110, c110, G110, [] ++ N⟩ : OpsS) (ops_next [] (⟨3, n.tmod 3, (n.tdiv 3).tmod 7 - 1, [], [], none, 0, none, 0⟩ : OpV) (by omega) (by omega) hol hG110 hok ⟨nil_row, fun _ => rfl, (fun x hx => by simp at hx), Nat.zero_le _, nil_row, fun _ => rfl, Nat.zero_le _, (fun x hx => by simp at hx), ⟨by simp only; omega, by simp only; omega⟩, by simp only; omega⟩) (by simp only; omega) (fun s hs => by dsimp only; rw [List.length_append]; exact hs.tl [] 0)
           · try simp only [cnd] at hc4
             refine WX.seq ?_
             refine WX.seq ?_
             refine WX.region rfl ?_
             refine WXL.bin Met.none rfl rfl rfl ?_
             refine WXL.assign Met.none rfl ?_
             refine WXL.nil ?_
             refine Fin.then_normal ?_
             refine WX.cond rfl (fun hc5 => ?_) (fun hc5 => ?_)
             · try simp only [cnd] at hc5
               rw [show decide (sw = 4) = true from decide_eq_true hc5]
               refine WX.skip ?_
               refine Fin.then_normal ?_
               refine WX.cond rfl (fun hc6 => ?_) (fun hc6 => nomatch hc6)
               refine WX.seq ?_
               refine WX.region rfl ?_
               refine WXL.fieldAddr (off' := 0) Met.none rfl Try.underlying48 rfl sz3 rfl ?_
               refine WXL.st (vs := [_]) (c' := [_, _, _, _, _]) Met.none rfl rfl rfl sz3 ?_
               refine WXL.nil ?_
               refine Fin.then_normal ?_
               refine WX.seq ?_
               refine WX.region rfl ?_
               refine WXL.move Met.none rfl ?_
               refine WXL.qu Met.none rfl rfl ?_
               refine WXL.rem Met.none rfl rfl (by omega) ?_
               refine WXL.bin Met.none rfl rfl bvS ?_
               refine WXL.fieldAddr (off' := 2) Met.none rfl Try.underlying48 rfl sz3 rfl ?_
               refine WXL.st (vs := [_]) (c' := [_, _, _, _, _]) Met.none rfl rfl rfl sz3 ?_
               refine WXL.nil ?_
               refine Fin.then_normal ?_
               refine WX.seq ?_
               refine WX.region rfl ?_
               refine WXL.move Met.none rfl ?_
               refine WXL.rem Met.none rfl rfl (by omega) ?_
               refine WXL.bin Met.none rfl rfl bvS ?_
               refine WXL.move Met.none rfl ?_
               refine WXL.qu Met.none rfl rfl ?_
               refine WXL.rem Met.none rfl rfl (by omega) ?_
               refine WXL.move Met.none rfl ?_
               refine WXL.qu Met.none rfl rfl ?_
               refine WXL.rem Met.none rfl rfl (by omega) ?_
               refine WXL.buildSlice (c := [_, _, _]) Met.none rfl elem33 sz3 zero3 (by decide) (by decide) rfl rfl rfl rfl (fun b90 => ?_)
               refine WXL.fieldAddr (off' := 4) Met.none rfl Try.underlying48 rfl sz33 rfl ?_
               refine WXL.st (vs := [_]) (c' := [_, _, _, _, _]) Met.none rfl rfl rfl sz33 ?_
               refine WXL.nil ?_
               refine Fin.then_normal ?_
               refine WX.region rfl ?_
               refine WXL.fieldAddr (off' := 4) Met.none rfl Try.underlying48 rfl sz33 rfl ?_
               first | refine WXL.ld Met.none rfl agg33 ?_ | refine WXL.ldS Met.none rfl agg33 ?_
               refine WXL.move Met.none rfl ?_
               refine WXL.qu Met.none rfl rfl ?_
               refine WXL.rem Met.none rfl rfl (by omega) ?_
               refine WXL.pre (m := m) Met.none rfl rfl elem33 sz3 (Rowy.one at_ rfl rfl) (by intro h; cases h) ?_
               refine WXL.fieldAddr (off' := 4) Met.none rfl Try.underlying48 rfl sz33 rfl ?_
               refine WXL.st (vs := [_]) (c' := [_, _, _, _, _]) Met.none rfl rfl rfl sz33 ?_
               refine WXL.nil ?_
               refine Fin.block_normal ?_
               refine Fin.then_normal ?_
               first
               | refine WX.re (O' := (b6, ⟨0, false, [Value.int .i64 0, Value.int .i64 (n.tmod 3), Value.int .i64 0, .slice a7 xs.length c7, .slice none 0 0]⟩) :: (G ++ ((G7 ++ N) ++ O))) ?_
               | refine WX.re (O' := (b6, ⟨0, false, [Value.int .i64 0, I (n.tmod 70 - 3), Value.int .i64 0, Row b105 0 1 1, .slice none 0 0]⟩) :: (G ++ (([(b105, ⟨1, false, [Value.int .u8 1]⟩)] ++ N) ++ O))) ?_
               | refine WX.re (O' := (b6, ⟨0, false, [Value.int .i64 4, Value.int .i64 (n.tmod 3), I ((n.tdiv 4).tmod 40 - 4), .slice none 0 0, .slice (some ⟨b90, 0, none⟩) m m]⟩) :: (G ++ (([(b90, ⟨1, false, [I (n.tmod 5 - 1), Value.int .i64 ((n.tdiv 5).tmod 5), Value.int .i64 ((n.tdiv 25).tmod 5)]⟩)] ++ N) ++ O))) ?_
               | skip
               refine WX.region rfl ?_
               refine WXL.move Met.none rfl ?_
               refine WXL.ldN (vs := [_, _, _, _, _]) Met.none rfl agg48 sz48 ?_
               refine WXL.buildSlice (c := [_, _, _, _, _]) Met.none rfl elem44 sz48 zero48 (by decide) (by decide) rfl rfl rfl rfl (fun b109 => ?_)
               refine WXL.apG [_, _] Met.none rfl rfl isrow44 elem44 sz48 by48 zero48 (Src.lit (cs := [_, _, _, _, _])) (fun a110 c110 G110 hG110 => ?_)
               refine WXL.assign Met.none rfl ?_
               refine WXL.nil ?_
               refine Fin.block_normal ?_
               refine Fin.then_normal ?_
               first
               | refine WX.re (O' := G110 ++ ((G7 ++ N) ++ O)) ?_
               | refine WX.re (O' := G110 ++ (([(b105, ⟨1, false, [Value.int .u8 1]⟩)] ++ N) ++ O)) ?_
               | refine WX.re (O' := G110 ++ (([(b90, ⟨1, false, [I (n.tmod 5 - 1), Value.int .i64 ((n.tdiv 5).tmod 5), Value.int .i64 ((n.tdiv 25).tmod 5)]⟩)] ++ N) ++ O)) ?_
               | refine WX.re (O' := G110 ++ (([] ++ N) ++ O)) ?_
               refine WX.region rfl ?_
               refine WXL.move Met.none rfl ?_
               refine WXL.bin Met.none rfl rfl bvA ?_
               refine WXL.assign Met.none rfl ?_
               refine WXL.nil ?_
               first
               | exact Fin.loop_next (⟨i + 1, ops ++ [(⟨0, n.tmod 3, 0, xs, [], a7, c7, none, 0⟩ : OpV)], a110, c110, G110, G7 ++ N⟩ : OpsS) (ops_next G7 (⟨0, n.tmod 3, 0, xs, [], a7, c7, none, 0⟩ : OpV) (by omega) (by omega) hol hG110 hok ⟨hG7.rowy, fun q => (hG7.nil0 q).1, hxB, by simp only; omega, nil_row, fun _ => rfl, Nat.zero_le _, (fun x hx => by simp at hx), ⟨by simp only; omega, by simp only; omega⟩, by simp only; omega⟩) (by simp only; omega) (fun s hs => by dsimp only; rw [List.length_append]; exact hs.tl [] 0)
               | exact Fin.loop_next (⟨i + 1, ops ++ [(⟨0, n.tmod 70 - 3, 0, [1], [], some ⟨b105, 0, none⟩, 1, none, 0⟩ : OpV)], a110, c110, G110, [(b105, ⟨1, false, [Value.int .u8 1]⟩)] ++ N⟩ : OpsS) (ops_next [(b105, ⟨1, false, [Value.int .u8 1]⟩)] (⟨0, n.tmod 70 - 3, 0, [1], [], some ⟨b105, 0, none⟩, 1, none, 0⟩ : OpV) (by omega) (by omega) hol hG110 hok ⟨h1row _ (Knows.at 0 rfl), (fun q => by cases q), (fun x hx => by rw [List.mem_singleton.1 hx]; decide), Nat.le_of_ble_eq_true rfl, nil_row, fun _ => rfl, Nat.zero_le _, (fun x hx => by simp at hx), ⟨by simp only; omega, by simp only; omega⟩, by simp only; omega⟩) (by simp only; omega) (fun s hs => by dsimp only; rw [List.length_append]; exact hs.tl [] 0)
               | exact Fin.loop_next (⟨i + 1, ops ++ [(⟨4, n.tmod 3, (n.tdiv 4).tmod 40 - 4, [], ([n.tmod 5 - 1, (n.tdiv 5).tmod 5, (n.tdiv 25).tmod 5].take m), none, 0, some ⟨b90, 0, none⟩, m⟩ : OpV)], a110, c110, G110, [(b90, ⟨1, false, [I (n.tmod 5 - 1), Value.int .i64 ((n.tdiv 5).tmod 5), Value.int .i64 ((n.tdiv 25).tmod 5)]⟩)] ++ N⟩ : OpsS) (ops_next [(b90, ⟨1, false, [I (n.tmod 5 - 1), Value.int .i64 ((n.tdiv 5).tmod 5), Value.int .i64 ((n.tdiv 25).tmod 5)]⟩)] (⟨4, n.tmod 3, (n.tdiv 4).tmod 40 - 4, [], ([n.tmod 5 - 1, (n.tdiv 5).tmod 5, (n.tdiv 25).tmod 5].take m), none, 0, some ⟨b90, 0, none⟩, m⟩ : OpV) (by omega) (by omega) hol (by unfold encV; simp only; rw [hkl]; exact hG110) hok ⟨nil_row, fun _ => rfl, (fun x hx => by simp at hx), Nat.zero_le _, hkrow _ (Knows.at 0 rfl), (fun q => by cases q), hkl3, hk64, ⟨by simp only; omega, by simp only; omega⟩, by simp only; omega⟩) (by simp only; omega) (fun s hs => by dsimp only; rw [List.length_append]; exact hs.tl [] 0)
               | exact Fin.loop_next (⟨i + 1, ops ++ [(⟨1, n.tmod 3, 0, [], [], none, 0, none, 0⟩ : OpV)], a110, c110, G110, [] ++ N⟩ : OpsS) (ops_next [] (⟨1, n.tmod 3, 0, [], [], none, 0, none, 0⟩ : OpV) (by omega) (by omega) hol hG110 hok ⟨nil_row, fun _ => rfl, (fun x hx => by simp at hx), Nat.zero_le _, nil_row, fun _ => rfl, Nat.zero_le _, (fun x hx => by simp at hx), ⟨by simp only; omega, by simp only; omega⟩, by simp only; omega⟩) (by simp only; omega) (fun s hs => by dsimp only; rw [List.length_append]; exact hs.tl [] 0)
               | exact Fin.loop_next (⟨i + 1, ops ++ [(⟨2, n.tmod 3, (n.tdiv 3).tmod 9 - 1, [], [], none, 0, none, 0⟩ : OpV)], a110, c110, G110, [] ++ N⟩ : OpsS) (ops_next [] (⟨2, n.tmod 3, (n.tdiv 3).tmod 9 - 1, [], [], none, 0, none, 0⟩ : OpV) (by omega) (by omega) hol hG110 hok ⟨nil_row, fun _ => rfl, (fun x hx => by simp at hx), Nat.zero_le _, nil_row, fun _ => rfl, Nat.zero_le _, (fun x hx => by simp at hx), ⟨by simp only; omega, by simp only; omega⟩, by simp only; omega⟩) (by simp only; omega) (fun s hs => by dsimp only; rw [List.length_append]; exact hs.tl [] 0)
               | exact Fin.loop_next (⟨i + 1, ops ++ [(⟨3, n.tmod 3, (n.tdiv 3).tmod 7 - 1, [], [], none, 0, none, 0⟩ : OpV)], a110, c110, G110, [] ++ N⟩ : OpsS) (ops_next [] (⟨3, n.tmod 3, (n.tdiv 3).tmod 7 - 1, [], [], none, 0, none, 0⟩ : OpV) (by omega) (by omega) hol hG110 hok ⟨nil_row, fun _ => rfl, (fun x hx => by simp at hx), Nat.zero_le _, nil_row, fun _ => rfl, Nat.zero_le _, (fun x hx => by simp at hx), ⟨by simp only; omega, by simp only; omega⟩, by simp only; omega⟩) (by simp only; omega) (fun s hs => by dsimp only; rw [List.length_append]; exact hs.tl [] 0)
             · try simp only [cnd] at hc5
               refine WX.region rfl ?_
               refine WXL.bin Met.none rfl rfl rfl ?_
               refine WXL.assign Met.none rfl ?_
               refine WXL.nil ?_
               refine Fin.then_normal ?_
               refine WX.cond rfl (fun hc6 => ?_) (fun hc6 => ?_)
               · try simp only [cnd] at hc6
                 refine WX.seq ?_
                 refine WX.region rfl ?_
                 refine WXL.fieldAddr (off' := 0) Met.none rfl Try.underlying48 rfl sz3 rfl ?_
                 refine WXL.st (vs := [_]) (c' := [_, _, _, _, _]) Met.none rfl rfl rfl sz3 ?_
                 refine WXL.nil ?_
                 refine Fin.then_normal ?_
                 refine WX.seq ?_
                 refine WX.region rfl ?_
                 refine WXL.move Met.none rfl ?_
                 refine WXL.qu Met.none rfl rfl ?_
                 refine WXL.rem Met.none rfl rfl (by omega) ?_
                 refine WXL.bin Met.none rfl rfl bvS ?_
                 refine WXL.fieldAddr (off' := 2) Met.none rfl Try.underlying48 rfl sz3 rfl ?_
                 refine WXL.st (vs := [_]) (c' := [_, _, _, _, _]) Met.none rfl rfl rfl sz3 ?_
                 refine WXL.nil ?_
                 refine Fin.then_normal ?_
                 refine WX.seq ?_
                 refine WX.region rfl ?_
                 refine WXL.move Met.none rfl ?_
                 refine WXL.rem Met.none rfl rfl (by omega) ?_
                 refine WXL.bin Met.none rfl rfl bvS ?_
                 refine WXL.move Met.none rfl ?_
                 refine WXL.qu Met.none rfl rfl ?_
                 refine WXL.rem Met.none rfl rfl (by omega) ?_
                 refine WXL.move Met.none rfl ?_
                 refine WXL.qu Met.none rfl rfl ?_
                 refine WXL.rem Met.none rfl rfl (by omega) ?_
                 refine WXL.buildSlice (c := [_, _, _]) Met.none rfl elem33 sz3 zero3 (by decide) (by decide) rfl rfl rfl rfl (fun b90 => ?_)
                 refine WXL.fieldAddr (off' := 4) Met.none rfl Try.underlying48 rfl sz33 rfl ?_
                 refine WXL.st (vs := [_]) (c' := [_, _, _, _, _]) Met.none rfl rfl rfl sz33 ?_
                 refine WXL.nil ?_
                 refine Fin.then_normal ?_
                 refine WX.region rfl ?_
                 refine WXL.fieldAddr (off' := 4) Met.none rfl Try.underlying48 rfl sz33 rfl ?_
                 first | refine WXL.ld Met.none rfl agg33 ?_ | refine WXL.ldS Met.none rfl agg33 ?_
                 refine WXL.move Met.none rfl ?_
                 refine WXL.qu Met.none rfl rfl ?_
                 refine WXL.rem Met.none rfl rfl (by omega) ?_
                 refine WXL.pre (m := m) Met.none rfl rfl elem33 sz3 (Rowy.one at_ rfl rfl) (by intro h; cases h) ?_
                 refine WXL.fieldAddr (off' := 4) Met.none rfl Try.underlying48 rfl sz33 rfl ?_
                 refine WXL.st (vs := [_]) (c' := [_, _, _, _, _]) Met.none rfl rfl rfl sz33 ?_
                 refine WXL.nil ?_
                 refine Fin.block_normal ?_
                 refine Fin.then_normal ?_
                 first
                 | refine WX.re (O' := (b6, ⟨0, false, [Value.int .i64 0, Value.int .i64 (n.tmod 3), Value.int .i64 0, .slice a7 xs.length c7, .slice none 0 0]⟩) :: (G ++ ((G7 ++ N) ++ O))) ?_
                 | refine WX.re (O' := (b6, ⟨0, false, [Value.int .i64 0, I (n.tmod 70 - 3), Value.int .i64 0, Row b105 0 1 1, .slice none 0 0]⟩) :: (G ++ (([(b105, ⟨1, false, [Value.int .u8 1]⟩)] ++ N) ++ O))) ?_
                 | refine WX.re (O' := (b6, ⟨0, false, [Value.int .i64 4, Value.int .i64 (n.tmod 3), I ((n.tdiv 4).tmod 40 - 4), .slice none 0 0, .slice (some ⟨b90, 0, none⟩) m m]⟩) :: (G ++ (([(b90, ⟨1, false, [I (n.tmod 5 - 1), Value.int .i64 ((n.tdiv 5).tmod 5), Value.int .i64 ((n.tdiv 25).tmod 5)]⟩)] ++ N) ++ O))) ?_
                 | skip
                 refine WX.region rfl ?_
                 refine WXL.move Met.none rfl ?_
                 refine WXL.ldN (vs := [_, _, _, _, _]) Met.none rfl agg48 sz48 ?_
                 refine WXL.buildSlice (c := [_, _, _, _, _]) Met.none rfl elem44 sz48 zero48 (by decide) (by decide) rfl rfl rfl rfl (fun b109 => ?_)
                 refine WXL.apG [_, _] Met.none rfl rfl isrow44 elem44 sz48 by48 zero48 (Src.lit (cs := [_, _, _, _, _])) (fun a110 c110 G110 hG110 => ?_)
                 refine WXL.assign Met.none rfl ?_
                 refine WXL.nil ?_
                 refine Fin.block_normal ?_
                 refine Fin.then_normal ?_
                 first
                 | refine WX.re (O' := G110 ++ ((G7 ++ N) ++ O)) ?_
                 | refine WX.re (O' := G110 ++ (([(b105, ⟨1, false, [Value.int .u8 1]⟩)] ++ N) ++ O)) ?_
                 | refine WX.re (O' := G110 ++ (([(b90, ⟨1, false, [I (n.tmod 5 - 1), Value.int .i64 ((n.tdiv 5).tmod 5), Value.int .i64 ((n.tdiv 25).tmod 5)]⟩)] ++ N) ++ O)) ?_
                 | refine WX.re (O' := G110 ++ (([] ++ N) ++ O)) ?_
                 refine WX.region rfl ?_
                 refine WXL.move Met.none rfl ?_
                 refine WXL.bin Met.none rfl rfl bvA ?_
                 refine WXL.assign Met.none rfl ?_
                 refine WXL.nil ?_
                 first
                 | exact Fin.loop_next (⟨i + 1, ops ++ [(⟨0, n.tmod 3, 0, xs, [], a7, c7, none, 0⟩ : OpV)], a110, c110, G110, G7 ++ N⟩ : OpsS) (ops_next G7 (⟨0, n.tmod 3, 0, xs, [], a7, c7, none, 0⟩ : OpV) (by omega) (by omega) hol hG110 hok ⟨hG7.rowy, fun q => (hG7.nil0 q).1, hxB, by simp only; omega, nil_row, fun _ => rfl, Nat.zero_le _, (fun x hx => by simp at hx), ⟨by simp only; omega, by simp only; omega⟩, by simp only; omega⟩) (by simp only; omega) (fun s hs => by dsimp only; rw [List.length_append]; exact hs.tl [] 0)
                 | exact Fin.loop_next (⟨i + 1, ops ++ [(⟨0, n.tmod 70 - 3, 0, [1], [], some ⟨b105, 0, none⟩, 1, none, 0⟩ : OpV)], a110, c110, G110, [(b105, ⟨1, false, [Value.int .u8 1]⟩)] ++ N⟩ : OpsS) (ops_next [(b105, ⟨1, false, [Value.int .u8 1]⟩)] (⟨0, n.tmod 70 - 3, 0, [1], [], some ⟨b105, 0, none⟩, 1, none, 0⟩ : OpV) (by omega) (by omega) hol hG110 hok ⟨h1row _ (Knows.at 0 rfl), (fun q => by cases q), (fun x hx => by rw [List.mem_singleton.1 hx]; decide), Nat.le_of_ble_eq_true rfl, nil_row, fun _ => rfl, Nat.zero_le _, (fun x hx => by simp at hx), ⟨by simp only; omega, by simp only; omega⟩, by simp only; omega⟩) (by simp only; omega) (fun s hs => by dsimp only; rw [List.length_append]; exact hs.tl [] 0)
                 | exact Fin.loop_next (⟨i + 1, ops ++ [(⟨4, n.tmod 3, (n.tdiv 4).tmod 40 - 4, [], ([n.tmod 5 - 1, (n.tdiv 5).tmod 5, (n.tdiv 25).tmod 5].take m), none, 0, some ⟨b90, 0, none⟩, m⟩ : OpV)], a110, c110, G110, [(b90, ⟨1, false, [I (n.tmod 5 - 1), Value.int .i64 ((n.tdiv 5).tmod 5), Value.int .i64 ((n.tdiv 25).tmod 5)]⟩)] ++ N⟩ : OpsS) (ops_next [(b90, ⟨1, false, [I (n.tmod 5 - 1), Value.int .i64 ((n.tdiv 5).tmod 5), Value.int .i64 ((n.tdiv 25).tmod 5)]⟩)] (⟨4, n.tmod 3, (n.tdiv 4).tmod 40 - 4, [], ([n.tmod 5 - 1, (n.tdiv 5).tmod 5, (n.tdiv 25).tmod 5].take m), none, 0, some ⟨b90, 0, none⟩, m⟩ : OpV) (by omega) (by omega) hol (by unfold encV; simp only; rw [hkl]; exact hG110) hok ⟨nil_row, fun _ => rfl, (fun x hx => by simp at hx), Nat.zero_le _, hkrow _ (Knows.at 0 rfl), (fun q => by cases q), hkl3, hk64, ⟨by simp only; omega, by simp only; omega⟩, by simp only; omega⟩) (by simp only; omega) (fun s hs => by dsimp only; rw [List.length_append]; exact hs.tl [] 0)
                 | exact Fin.loop_next (⟨i + 1, ops ++ [(⟨1, n.tmod 3, 0, [], [], none, 0, none, 0⟩ : OpV)], a110, c110, G110, [] ++ N⟩ : OpsS) (ops_next [] (⟨1, n.tmod 3, 0, [], [], none, 0, none, 0⟩ : OpV) (by omega) (by omega) hol hG110 hok ⟨nil_row, fun _ => rfl, (fun x hx => by simp at hx), Nat.zero_le _, nil_row, fun _ => rfl, Nat.zero_le _, (fun x hx => by simp at hx), ⟨by simp only; omega, by simp only; omega⟩, by simp only; omega⟩) (by simp only; omega) (fun s hs => by dsimp only; rw [List.length_append]; exact hs.tl [] 0)
                 | exact Fin.loop_next (⟨i + 1, ops ++ [(⟨2, n.tmod 3, (n.tdiv 3).tmod 9 - 1, [], [], none, 0, none, 0⟩ : OpV)], a110, c110, G110, [] ++ N⟩ : OpsS) (ops_next [] (⟨2, n.tmod 3, (n.tdiv 3).tmod 9 - 1, [], [], none, 0, none, 0⟩ : OpV) (by omega) (by omega) hol hG110 hok ⟨nil_row, fun _ => rfl, (fun x hx => by simp at hx), Nat.zero_le _, nil_row, fun _ => rfl, Nat.zero_le _, (fun x hx => by simp at hx), ⟨by simp only; omega, by simp only; omega⟩, by simp only; omega⟩) (by simp only; omega) (fun s hs => by dsimp only; rw [List.length_append]; exact hs.tl [] 0)
                 | exact Fin.loop_next (⟨i + 1, ops ++ [(⟨3, n.tmod 3, (n.tdiv 3).tmod 7 - 1, [], [], none, 0, none, 0⟩ : OpV)], a110, c110, G110, [] ++ N⟩ : OpsS) (ops_next [] (⟨3, n.tmod 3, (n.tdiv 3).tmod 7 - 1, [], [], none, 0, none, 0⟩ : OpV) (by omega) (by omega) hol hG110 hok ⟨nil_row, fun _ => rfl, (fun x hx => by simp at hx), Nat.zero_le _, nil_row, fun _ => rfl, Nat.zero_le _, (fun x hx => by simp at hx), ⟨by simp only; omega, by simp only; omega⟩, by simp only; omega⟩) (by simp only; omega) (fun s hs => by dsimp only; rw [List.length_append]; exact hs.tl [] 0)
               · try simp only [cnd] at hc6
                 refine WX.seq ?_
                 refine WX.region rfl ?_
                 refine WXL.bin Met.none rfl rfl rfl ?_
                 refine WXL.assign Met.none rfl ?_
                 refine WXL.nil ?_
                 refine Fin.then_normal ?_
                 refine WX.cond rfl (fun hc7 => ?_) (fun hc7 => ?_)
                 · try simp only [cnd] at hc7
                   refine WX.seq ?_
                   refine WX.region rfl ?_
                   refine WXL.move Met.none rfl ?_
                   refine WXL.rem Met.none rfl rfl (by omega) ?_
                   refine WXL.bin Met.none rfl rfl bvS ?_
                   refine WXL.fieldAddr (off' := 1) Met.none rfl Try.underlying48 rfl sz3 rfl ?_
                   refine WXL.st (vs := [_]) (c' := [_, _, _, _, _]) Met.none rfl rfl rfl sz3 ?_
                   refine WXL.nil ?_
                   refine Fin.then_normal ?_
                   refine WX.region rfl ?_
                   refine WXL.buildSlice (c := [_]) Met.none rfl elem27 sz5 zero5 (by decide) (by decide) rfl rfl rfl rfl (fun b105 => ?_)
                   refine WXL.fieldAddr (off' := 3) Met.none rfl Try.underlying48 rfl sz27 rfl ?_
                   refine WXL.st (vs := [_]) (c' := [_, _, _, _, _]) Met.none rfl rfl rfl sz27 ?_
                   refine WXL.nil ?_
                   refine Fin.block_normal ?_
                   refine Fin.then_normal ?_
                   first
                   | refine WX.re (O' := (b6, ⟨0, false, [Value.int .i64 0, Value.int .i64 (n.tmod 3), Value.int .i64 0, .slice a7 xs.length c7, .slice none 0 0]⟩) :: (G ++ ((G7 ++ N) ++ O))) ?_
                   | refine WX.re (O' := (b6, ⟨0, false, [Value.int .i64 0, I (n.tmod 70 - 3), Value.int .i64 0, Row b105 0 1 1, .slice none 0 0]⟩) :: (G ++ (([(b105, ⟨1, false, [Value.int .u8 1]⟩)] ++ N) ++ O))) ?_
                   | refine WX.re (O' := (b6, ⟨0, false, [Value.int .i64 4, Value.int .i64 (n.tmod 3), I ((n.tdiv 4).tmod 40 - 4), .slice none 0 0, .slice (some ⟨b90, 0, none⟩) m m]⟩) :: (G ++ (([(b90, ⟨1, false, [I (n.tmod 5 - 1), Value.int .i64 ((n.tdiv 5).tmod 5), Value.int .i64 ((n.tdiv 25).tmod 5)]⟩)] ++ N) ++ O))) ?_
                   | skip
                   refine WX.region rfl ?_
                   refine WXL.move Met.none rfl ?_
                   refine WXL.ldN (vs := [_, _, _, _, _]) Met.none rfl agg48 sz48 ?_
                   refine WXL.buildSlice (c := [_, _, _, _, _]) Met.none rfl elem44 sz48 zero48 (by decide) (by decide) rfl rfl rfl rfl (fun b109 => ?_)
                   refine WXL.apG [_, _] Met.none rfl rfl isrow44 elem44 sz48 by48 zero48 (Src.lit (cs := [_, _, _, _, _])) (fun a110 c110 G110 hG110 => ?_)
                   refine WXL.assign Met.none rfl ?_
                   refine WXL.nil ?_
                   refine Fin.block_normal ?_
                   refine Fin.then_normal ?_
                   first
                   | refine WX.re (O' := G110 ++ ((G7 ++ N) ++ O)) ?_
                   | refine WX.re (O' := G110 ++ (([(b105, ⟨1, false, [Value.int .u8 1]⟩)] ++ N) ++ O)) ?_
                   | refine WX.re (O' := G110 ++ (([(b90, ⟨1, false, [I (n.tmod 5 - 1), Value.int .i64 ((n.tdiv 5).tmod 5), Value.int .i64 ((n.tdiv 25).tmod 5)]⟩)] ++ N) ++ O)) ?_
                   | refine WX.re (O' := G110 ++ (([] ++ N) ++ O)) ?_
                   refine WX.region rfl ?_
                   refine WXL.move Met.none rfl ?_
                   refine WXL.bin Met.none rfl rfl bvA ?_
                   refine WXL.assign Met.none rfl ?_
                   refine WXL.nil ?_
                   first
                   | exact Fin.loop_next (⟨i + 1, ops ++ [(⟨0, n.tmod 3, 0, xs, [], a7, c7, none, 0⟩ : OpV)], a110, c110, G110, G7 ++ N⟩ : OpsS) (ops_next G7 (⟨0, n.tmod 3, 0, xs, [], a7, c7, none, 0⟩ : OpV) (by omega) (by omega) hol hG110 hok ⟨hG7.rowy, fun q => (hG7.nil0 q).1, hxB, by simp only; omega, nil_row, fun _ => rfl, Nat.zero_le _, (fun x hx => by simp at hx), ⟨by simp only; omega, by simp only; omega⟩, by simp only; omega⟩) (by simp only; omega) (fun s hs => by dsimp only; rw [List.length_append]; exact hs.tl [] 0)
                   | exact Fin.loop_next (⟨i + 1, ops ++ [(⟨0, n.tmod 70 - 3, 0, [1], [], some ⟨b105, 0, none⟩, 1, none, 0⟩ : OpV)], a110, c110, G110, [(b105, ⟨1, false, [Value.int .u8 1]⟩)] ++ N⟩ : OpsS) (ops_next [(b105, ⟨1, false, [Value.int .u8 1]⟩)] (⟨0, n.tmod 70 - 3, 0, [1], [], some ⟨b105, 0, none⟩, 1, none, 0⟩ : OpV) (by omega) (by omega) hol hG110 hok ⟨h1row _ (Knows.at 0 rfl), (fun q => by cases q), (fun x hx => by rw [List.mem_singleton.1 hx]; decide), Nat.le_of_ble_eq_true rfl, nil_row, fun _ => rfl, Nat.zero_le _, (fun x hx => by simp at hx), ⟨by simp only; omega, by simp only; omega⟩, by simp only; omega⟩) (by simp only; omega) (fun s hs => by dsimp only; rw [List.length_append]; exact hs.tl [] 0)
                   | exact Fin.loop_next (⟨i + 1, ops ++ [(⟨4, n.tmod 3, (n.tdiv 4).tmod 40 - 4, [], ([n.tmod 5 - 1, (n.tdiv 5).tmod 5, (n.tdiv 25).tmod 5].take m), none, 0, some ⟨b90, 0, none⟩, m⟩ : OpV)], a110, c110, G110, [(b90, ⟨1, false, [I (n.tmod 5 - 1), Value.int .i64 ((n.tdiv 5).tmod 5), Value.int .i64 ((n.tdiv 25).tmod 5)]⟩)] ++ N⟩ : OpsS) (ops_next [(b90, ⟨1, false, [I (n.tmod 5 - 1), Value.int .i64 ((n.tdiv 5).tmod 5), Value.int .i64 ((n.tdiv 25).tmod 5)]⟩)] (⟨4, n.tmod 3, (n.tdiv 4).tmod 40 - 4, [], ([n.tmod 5 - 1, (n.tdiv 5).tmod 5, (n.tdiv 25).tmod 5].take m), none, 0, some ⟨b90, 0, none⟩, m⟩ : OpV) (by omega) (by omega) hol (by unfold encV; simp only; rw [hkl]; exact hG110) hok ⟨nil_row, fun _ => rfl, (fun x hx => by simp at hx), Nat.zero_le _, hkrow _ (Knows.at 0 rfl), (fun q => by cases q), hkl3, hk64, ⟨by simp only; omega, by simp only; omega⟩, by simp only; omega⟩) (by simp only; omega) (fun s hs => by dsimp only; rw [List.length_append]; exact hs.tl [] 0)
                   | exact Fin.loop_next (⟨i + 1, ops ++ [(⟨1, n.tmod 3, 0, [], [], none, 0, none, 0⟩ : OpV)], a110, c110, G110, [] ++ N⟩ : OpsS) (ops_next [] (⟨1, n.tmod 3, 0, [], [], none, 0, none, 0⟩ : OpV) (by omega) (by omega) hol hG110 hok ⟨nil_row, fun _ => rfl, (fun x hx => by simp at hx), Nat.zero_le _, nil_row, fun _ => rfl, Nat.zero_le _, (fun x hx => by simp at hx), ⟨by simp only; omega, by simp only; omega⟩, by simp only; omega⟩) (by simp only; omega) (fun s hs => by dsimp only; rw [List.length_append]; exact hs.tl [] 0)
                   | exact Fin.loop_next (⟨i + 1, ops ++ [(⟨2, n.tmod 3, (n.tdiv 3).tmod 9 - 1, [], [], none, 0, none, 0⟩ : OpV)], a110, c110, G110, [] ++ N⟩ : OpsS) (ops_next [] (⟨2, n.tmod 3, (n.tdiv 3).tmod 9 - 1, [], [], none, 0, none, 0⟩ : OpV) (by omega) (by omega) hol hG110 hok ⟨nil_row, fun _ => rfl, (fun x hx => by simp at hx), Nat.zero_le _, nil_row, fun _ => rfl, Nat.zero_le _, (fun x hx => by simp at hx), ⟨by simp only; omega, by simp only; omega⟩, by simp only; omega⟩) (by simp only; omega) (fun s hs => by dsimp only; rw [List.length_append]; exact hs.tl [] 0)
                   | exact Fin.loop_next (⟨i + 1, ops ++ [(⟨3, n.tmod 3, (n.tdiv 3).tmod 7 - 1, [], [], none, 0, none, 0⟩ : OpV)], a110, c110, G110, [] ++ N⟩ : OpsS) (ops_next [] (⟨3, n.tmod 3, (n.tdiv 3).tmod 7 - 1, [], [], none, 0, none, 0⟩ : OpV) (by omega) (by omega) hol hG110 hok ⟨nil_row, fun _ => rfl, (fun x hx => by simp at hx), Nat.zero_le _, nil_row, fun _ => rfl, Nat.zero_le _, (fun x hx => by simp at hx), ⟨by simp only; omega, by simp only; omega⟩, by simp only; omega⟩) (by simp only; omega) (fun s hs => by dsimp only; rw [List.length_append]; exact hs.tl [] 0)
                 · try simp only [cnd] at hc7
                   refine WX.seq ?_
                   refine WX.region rfl ?_
                   refine WXL.assign Met.none rfl ?_
                   refine WXL.nil ?_
                   refine Fin.then_normal ?_
                   refine WX.block ?_
                   refine WX.re (O' := (b6, ⟨0, false, [Value.int .i64 0, Value.int .i64 (n.tmod 3), Value.int .i64 0, .slice none 0 0, .slice none 0 0]⟩) :: ([] ++ (G ++ (N ++ O)))) ?_
                   refine WX.loop (fun q : Nat × List Int × Option Addr × Nat × Objs => [(0, .slice a l.length c), (3, .slice a3 ops.length c3), (4, I (i : Int)), (5, I n), (6, Ptr b6 0), (7, I (q.1 : Int))]) (fun q => (b6, ⟨0, false, [Value.int .i64 0, Value.int .i64 (n.tmod 3), Value.int .i64 0, .slice q.2.2.1 q.2.1.length q.2.2.2.1, .slice none 0 0]⟩) :: (q.2.2.2.2 ++ (G ++ (N ++ O)))) (fun q => q.1 ≤ 5 ∧ q.2.1.length = q.1 ∧ Bytes q.2.1 ∧ Grow 1 q.2.2.1 q.2.1.length q.2.2.2.1 (q.2.1.map B8) q.2.2.2.2) (fun q => 5 - q.1) (0, [], none, 0, []) ⟨Nat.zero_le _, rfl, (fun x hx => by simp at hx), .nil⟩ (fun s hs => hs.tl [] 0) (fun q hq => ?_)
                   obtain ⟨k, xs, a7, c7, G7⟩ := q
                   obtain ⟨hk5, hxl, hxB, hG7⟩ := hq
                   simp only at hk5 hxl hxB hG7
                   dsimp only
                   refine WX.seq ?_
                   refine WX.seq ?_
                   refine WX.region rfl ?_
                   refine WXL.move Met.none rfl ?_
                   refine WXL.move Met.none rfl ?_
                   refine WXL.qu Met.none rfl rfl ?_
                   refine WXL.rem Met.none rfl rfl (by omega) ?_
                   refine WXL.bin Met.none rfl rfl rfl ?_
                   refine WXL.nil ?_
                   refine Fin.then_normal ?_
                   refine WX.cond rfl (fun hc8 => ?_) (fun hc8 => ?_)
                   · try simp only [cnd] at hc8
                     refine WX.skip ?_
                     refine Fin.then_normal ?_
                     refine WX.seq ?_
                     refine WX.block ?_
                     refine WX.draw rfl ?_
                     refine WXL.fieldAddr (off' := 3) Met.none rfl Try.underlying48 rfl sz27 rfl ?_
                     first | refine WXL.ld Met.none rfl agg27 ?_ | refine WXL.ldS Met.none rfl agg27 ?_
                     refine WXL.move Met.none rfl ?_
                     refine WXL.move Met.none rfl ?_
                     first | refine WXL.ix Met.none rfl rfl elem33 sz3 ?_ | refine WXL.ixS Met.none rfl rfl elem33 sz3 ?_
                     first | refine WXL.ld Met.none rfl agg3 ?_ | refine WXL.ldS Met.none rfl agg3 ?_
                     refine WXL.move Met.none rfl ?_
                     refine WXL.conv Met.none rfl Try.underlying3 Try.underlying77 cv_ ?_
                     refine WXL.shr Met.none rfl rfl (by omega) ?_
                     refine WXL.conv Met.none rfl Try.underlying3 Try.underlying5 cv_ ?_
                     refine WXL.buildSlice (c := [_]) Met.none rfl elem27 sz5 zero5 (by decide) (by decide) rfl rfl rfl rfl (fun b49 => ?_)
                     refine WXL.apG [_, _] Met.none rfl rfl isrow27 elem27 sz5 by5 zero5 (Src.lit (cs := [_])) (fun a50 c50 G50 hG50 => ?_)
                     refine WXL.fieldAddr (off' := 3) Met.none rfl Try.underlying48 rfl sz27 rfl ?_
                     refine WXL.st (vs := [_]) (c' := [_, _, _, _, _]) Met.none rfl rfl rfl sz27 ?_
                     refine WXL.nil ?_
                     refine Fin.block_normal ?_
                     refine Fin.then_normal ?_
                     obtain ⟨w, hw⟩ : ∃ w, w = IntKind.wrap .u8 ((nth l i).fdiv (2 ^ min ((k : Nat) : Int).toNat (IntKind.bits .i64))) := ⟨_, rfl⟩
                     have hwr : 0 ≤ w ∧ w < 256 := hw ▸ wrap8_lt _
                     rw [← hw] at hG50
                     refine WX.re (O' := (b6, ⟨0, false, [Value.int .i64 0, Value.int .i64 (n.tmod 3), Value.int .i64 0, .slice a50 (xs.length + 1) c50, .slice none 0 0]⟩) :: (G50 ++ (G ++ (N ++ O)))) ?_
                     refine WX.region rfl ?_
                     refine WXL.move Met.none rfl ?_
                     refine WXL.bin Met.none rfl rfl bvA ?_
                     refine WXL.assign Met.none rfl ?_
                     refine WXL.nil ?_
                     refine Fin.loop_next (k + 1, xs ++ [w], a50, c50, G50) ⟨by simp only; omega, by simp only [List.length_append, hxl]; rfl, ?_, ?_⟩ (by simp only; omega) (fun s hs => by dsimp only; rw [List.length_append]; exact hs.tl [] 0)
                     · intro x hx
                       rcases List.mem_append.1 hx with q | q
                       · exact hxB x q
                       · rw [List.mem_singleton.1 q]; exact hwr
                     · simp only [List.length_append, List.map_append]
                       exact hG50
                   · try simp only [cnd] at hc8
                     refine WX.exit ?_
                     refine Fin.then_exit ?_
                     refine Fin.loop_exit ?_
                     refine Fin.block_hit rfl ?_
                     refine Fin.block_normal ?_
                     refine Fin.then_normal ?_
                     first
                     | refine WX.re (O' := (b6, ⟨0, false, [Value.int .i64 0, Value.int .i64 (n.tmod 3), Value.int .i64 0, .slice a7 xs.length c7, .slice none 0 0]⟩) :: (G ++ ((G7 ++ N) ++ O))) ?_
                     | refine WX.re (O' := (b6, ⟨0, false, [Value.int .i64 0, I (n.tmod 70 - 3), Value.int .i64 0, Row b105 0 1 1, .slice none 0 0]⟩) :: (G ++ (([(b105, ⟨1, false, [Value.int .u8 1]⟩)] ++ N) ++ O))) ?_
                     | refine WX.re (O' := (b6, ⟨0, false, [Value.int .i64 4, Value.int .i64 (n.tmod 3), I ((n.tdiv 4).tmod 40 - 4), .slice none 0 0, .slice (some ⟨b90, 0, none⟩) m m]⟩) :: (G ++ (([(b90, ⟨1, false, [I (n.tmod 5 - 1), Value.int .i64 ((n.tdiv 5).tmod 5), Value.int .i64 ((n.tdiv 25).tmod 5)]⟩)] ++ N) ++ O))) ?_
                     | skip
                     refine WX.region rfl ?_
                     refine WXL.move Met.none rfl ?_
                     refine WXL.ldN (vs := [_, _, _, _, _]) Met.none rfl agg48 sz48 ?_
                     refine WXL.buildSlice (c := [_, _, _, _, _]) Met.none rfl elem44 sz48 zero48 (by decide) (by decide) rfl rfl rfl rfl (fun b109 => ?_)
                     refine WXL.apG [_, _] Met.none rfl rfl isrow44 elem44 sz48 by48 zero48 (Src.lit (cs := [_, _, _, _, _])) (fun a110 c110 G110 hG110 => ?_)
                     refine WXL.assign Met.none rfl ?_
                     refine WXL.nil ?_
                     refine Fin.block_normal ?_
                     refine Fin.then_normal ?_
                     first
                     | refine WX.re (O' := G110 ++ ((G7 ++ N) ++ O)) ?_
                     | refine WX.re (O' := G110 ++ (([(b105, ⟨1, false, [Value.int .u8 1]⟩)] ++ N) ++ O)) ?_
                     | refine WX.re (O' := G110 ++ (([(b90, ⟨1, false, [I (n.tmod 5 - 1), Value.int .i64 ((n.tdiv 5).tmod 5), Value.int .i64 ((n.tdiv 25).tmod 5)]⟩)] ++ N) ++ O)) ?_
                     | refine WX.re (O' := G110 ++ (([] ++ N) ++ O)) ?_
                     refine WX.region rfl ?_
                     refine WXL.move Met.none rfl ?_
                     refine WXL.bin Met.none rfl rfl bvA ?_
                     refine WXL.assign Met.none rfl ?_
                     refine WXL.nil ?_
                     first
                     | exact Fin.loop_next (⟨i + 1, ops ++ [(⟨0, n.tmod 3, 0, xs, [], a7, c7, none, 0⟩ : OpV)], a110, c110, G110, G7 ++ N⟩ : OpsS) (ops_next G7 (⟨0, n.tmod 3, 0, xs, [], a7, c7, none, 0⟩ : OpV) (by omega) (by omega) hol hG110 hok ⟨hG7.rowy, fun q => (hG7.nil0 q).1, hxB, by simp only; omega, nil_row, fun _ => rfl, Nat.zero_le _, (fun x hx => by simp at hx), ⟨by simp only; omega, by simp only; omega⟩, by simp only; omega⟩) (by simp only; omega) (fun s hs => by dsimp only; rw [List.length_append]; exact hs.tl [] 0)
                     | exact Fin.loop_next (⟨i + 1, ops ++ [(⟨0, n.tmod 70 - 3, 0, [1], [], some ⟨b105, 0, none⟩, 1, none, 0⟩ : OpV)], a110, c110, G110, [(b105, ⟨1, false, [Value.int .u8 1]⟩)] ++ N⟩ : OpsS) (ops_next [(b105, ⟨1, false, [Value.int .u8 1]⟩)] (⟨0, n.tmod 70 - 3, 0, [1], [], some ⟨b105, 0, none⟩, 1, none, 0⟩ : OpV) (by omega) (by omega) hol hG110 hok ⟨h1row _ (Knows.at 0 rfl), (fun q => by cases q), (fun x hx => by rw [List.mem_singleton.1 hx]; decide), Nat.le_of_ble_eq_true rfl, nil_row, fun _ => rfl, Nat.zero_le _, (fun x hx => by simp at hx), ⟨by simp only; omega, by simp only; omega⟩, by simp only; omega⟩) (by simp only; omega) (fun s hs => by dsimp only; rw [List.length_append]; exact hs.tl [] 0)
                     | exact Fin.loop_next (⟨i + 1, ops ++ [(⟨4, n.tmod 3, (n.tdiv 4).tmod 40 - 4, [], ([n.tmod 5 - 1, (n.tdiv 5).tmod 5, (n.tdiv 25).tmod 5].take m), none, 0, some ⟨b90, 0, none⟩, m⟩ : OpV)], a110, c110, G110, [(b90, ⟨1, false, [I (n.tmod 5 - 1), Value.int .i64 ((n.tdiv 5).tmod 5), Value.int .i64 ((n.tdiv 25).tmod 5)]⟩)] ++ N⟩ : OpsS) (ops_next [(b90, ⟨1, false, [I (n.tmod 5 - 1), Value.int .i64 ((n.tdiv 5).tmod 5), Value.int .i64 ((n.tdiv 25).tmod 5)]⟩)] (⟨4, n.tmod 3, (n.tdiv 4).tmod 40 - 4, [], ([n.tmod 5 - 1, (n.tdiv 5).tmod 5, (n.tdiv 25).tmod 5].take m), none, 0, some ⟨b90, 0, none⟩, m⟩ : OpV) (by omega) (by omega) hol (by unfold encV; simp only; rw [hkl]; exact hG110) hok ⟨nil_row, fun _ => rfl, (fun x hx => by simp at hx), Nat.zero_le _, hkrow _ (Knows.at 0 rfl), (fun q => by cases q), hkl3, hk64, ⟨by simp only; omega, by simp only; omega⟩, by simp only; omega⟩) (by simp only; omega) (fun s hs => by dsimp only; rw [List.length_append]; exact hs.tl [] 0)
                     | exact Fin.loop_next (⟨i + 1, ops ++ [(⟨1, n.tmod 3, 0, [], [], none, 0, none, 0⟩ : OpV)], a110, c110, G110, [] ++ N⟩ : OpsS) (ops_next [] (⟨1, n.tmod 3, 0, [], [], none, 0, none, 0⟩ : OpV) (by omega) (by omega) hol hG110 hok ⟨nil_row, fun _ => rfl, (fun x hx => by simp at hx), Nat.zero_le _, nil_row, fun _ => rfl, Nat.zero_le _, (fun x hx => by simp at hx), ⟨by simp only; omega, by simp only; omega⟩, by simp only; omega⟩) (by simp only; omega) (fun s hs => by dsimp only; rw [List.length_append]; exact hs.tl [] 0)
                     | exact Fin.loop_next (⟨i + 1, ops ++ [(⟨2, n.tmod 3, (n.tdiv 3).tmod 9 - 1, [], [], none, 0, none, 0⟩ : OpV)], a110, c110, G110, [] ++ N⟩ : OpsS) (ops_next [] (⟨2, n.tmod 3, (n.tdiv 3).tmod 9 - 1, [], [], none, 0, none, 0⟩ : OpV) (by omega) (by omega) hol hG110 hok ⟨nil_row, fun _ => rfl, (fun x hx => by simp at hx), Nat.zero_le _, nil_row, fun _ => rfl, Nat.zero_le _, (fun x hx => by simp at hx), ⟨by simp only; omega, by simp only; omega⟩, by simp only; omega⟩) (by simp only; omega) (fun s hs => by dsimp only; rw [List.length_append]; exact hs.tl [] 0)
                     | exact Fin.loop_next (⟨i + 1, ops ++ [(⟨3, n.tmod 3, (n.tdiv 3).tmod 7 - 1, [], [], none, 0, none, 0⟩ : OpV)], a110, c110, G110, [] ++ N⟩ : OpsS) (ops_next [] (⟨3, n.tmod 3, (n.tdiv 3).tmod 7 - 1, [], [], none, 0, none, 0⟩ : OpV) (by omega) (by omega) hol hG110 hok ⟨nil_row, fun _ => rfl, (fun x hx => by simp at hx), Nat.zero_le _, nil_row, fun _ => rfl, Nat.zero_le _, (fun x hx => by simp at hx), ⟨by simp only; omega, by simp only; omega⟩, by simp only; omega⟩) (by simp only; omega) (fun s hs => by dsimp only; rw [List.length_append]; exact hs.tl [] 0)
   · try simp only [cnd] at hc0
     refine WX.exit ?_
     refine Fin.then_exit ?_
     refine Fin.loop_exit ?_
     refine Fin.block_hit rfl ?_
     refine Fin.then_normal ?_
     refine WX.seq ?_
     refine WX.region rfl ?_
     refine WXL.move Met.none rfl ?_
     refine WXL.assign Met.none rfl ?_
     refine WXL.nil ?_
     refine Fin.then_normal ?_
     refine WX.ret ?_
     exact Fin.result (O' := G ++ (N ++ O)) (.inr rfl) rfl rfl drop_ ⟨a3, c3, ops, G, N, rfl, hG, rfl, by omega, hok⟩
 · try simp only [cnd] at hg12
   refine WXL.miss (j := 4) (d := 12) rfl rfl rfl ?_
   refine WXL.miss (j := 4) (d := 12) rfl rfl rfl ?_
   refine WXL.pick_f Met.none rfl rfl ?_
   refine WXL.nil ?_
   refine Fin.then_normal ?_
   refine WX.cond rfl (fun hc0 => nomatch hc0) (fun hc0 => ?_)
   refine WX.exit ?_
   refine Fin.then_exit ?_
   refine Fin.loop_exit ?_
   refine Fin.block_hit rfl ?_
   refine Fin.then_normal ?_
   refine WX.seq ?_
   refine WX.region rfl ?_
   refine WXL.move Met.none rfl ?_
   refine WXL.assign Met.none rfl ?_
   refine WXL.nil ?_
   refine Fin.then_normal ?_
   refine WX.ret ?_
   exact Fin.result (O' := G ++ (N ++ O)) (.inr rfl) rfl rfl drop_ ⟨a3, c3, ops, G, N, rfl, hG, rfl, by omega, hok⟩
end Go.Proofs.Ytahaplbdhgfobaa.Eng
set_option linter.unusedVariables false
set_option linter.unusedSimpArgs false
set_option maxRecDepth 8000
namespace Go.Proofs.Ytahaplbdhgfobaa.Eng
def DoD (D : Dk) (o : OpV) (e : Int) (D' : Dk) : Prop :=
 if o.kind = 0 then e = (appendD D o.file o.b).1 ∧ D' = (appendD D o.file o.b).2
 else if o.kind = 1 then e = (syncD D).1 ∧ D' = (syncD D).2
 else if o.kind = 2 then e = (truncD D o.file o.n).1 ∧ D' = (truncD D o.file o.n).2
 else if o.kind = 3 then e = 0 ∧ D' = armD D o.n
 else e = 0 ∧ D'.room = D.room ∧ D'.off = false ∧ D'.armed = false ∧ ∀ m, getF D'.fs m = ((mget m (crashC D o.keep o.n)).getD ⟨[], 0⟩).hard
def doR (M : Rd) (o : OpV) : Int × Rd :=
 if o.kind = 0 then appendR M o.file o.b
 else if o.kind = 1 then syncR M
 else if o.kind = 2 then truncR M o.file o.n
 else if o.kind = 3 then (0, armR M o.n)
 else (0, crashR M o.keep o.n)
theorem sim_do {R : Objs} {D D' : Dk} {M : Rd} {mx : MapX} {o : OpV} {e : Int} (h : Sim D M) (hD : DkI R D mx) (hd : DoD D o e D') : e = (doR M o).1 ∧ Sim D' (doR M o).2 := by
 unfold DoD at hd
 unfold doR
 by_cases h0 : o.kind = 0
 · rw [if_pos h0] at hd ⊢
   have := sim_append h hD o.file o.b
   rw [hd.1, hd.2]; exact ⟨this.1.symm, this.2⟩
 rw [if_neg h0] at hd ⊢
 by_cases h1 : o.kind = 1
 · rw [if_pos h1] at hd ⊢
   have := sim_sync h
   rw [hd.1, hd.2]; exact ⟨this.1.symm, this.2⟩
 rw [if_neg h1] at hd ⊢
 by_cases h2 : o.kind = 2
 · rw [if_pos h2] at hd ⊢
   have := sim_trunc h hD o.file o.n
   rw [hd.1, hd.2]; exact ⟨this.1.symm, this.2⟩
 rw [if_neg h2] at hd ⊢
 by_cases h3 : o.kind = 3
 · rw [if_pos h3] at hd ⊢
   rw [hd.1, hd.2]; exact ⟨rfl, sim_arm h o.n⟩
 rw [if_neg h3] at hd ⊢
 obtain ⟨e1, e2, e3, e4, e5⟩ := hd
 exact ⟨e1, sim_crash h hD e2 e3 e4 e5⟩
theorem le_cons {R0 R : Objs} {q : Nat × Ent} (hi : ∀ Q : Nat × Ent → Bool, R0.countP Q ≤ R.countP Q) : ∀ Q : Nat × Ent → Bool, R0.countP Q ≤ (q :: R).countP Q := fun Q => by
 have := hi Q
 rw [List.countP_cons]
 omega
theorem le_sat {R0 R : Objs} (hi : ∀ Q : Nat × Ent → Bool, R0.countP Q ≤ R.countP Q) : ∀ g, Sat g R → Sat g R0 := fun g hg => hg.sub hi
theorem do_ok (R : Objs) {R0 : Objs} (d bm : Nat) (D : Dk) (mx : MapX) (o : OpV) (hD : DkI R0 D mx) (hi : ∀ Q : Nat × Ent → Bool, R0.countP Q ≤ R.countP Q) (hroom : D.room ≤ 1000000) (ho : OpK R o) :
  Spec Try.prog false 24 #[Ptr d 0, .agg (encV o).toArray] (dkO d bm D mx R) fun v O' => ∃ e D' mx' N, v = I e ∧ O' = dkO d bm D' mx' (N ++ R) ∧ DkI (N ++ R0) D' mx' ∧ DoD D o e D' := by
 refine Spec.enter (args := [_, _]) (m := 39) Try.func24 rfl rfl (by decide +kernel) fun h0 => ?_
 refine WX.seq ?_
 refine WX.region rfl ?_
 refine WXL.box (c := [_, _, _, _, _]) Met.none rfl rfl rfl (fun b3 => ?_)
 refine WXL.assign Met.none rfl ?_
 refine WXL.nil ?_
 refine Fin.then_normal ?_
 refine WX.seq ?_
 refine WX.seq ?_
 refine WX.re (O' := dkO d bm D mx ((b3, ⟨0, false, encV o⟩) :: R)) ?_ (fun _ hs => hs.tl [1, 2, 0] 3)
 refine WX.region rfl ?_
 refine WXL.fieldAddr (off' := 0) Met.none rfl Try.underlying48 rfl sz3 rfl ?_
 first | refine WXL.ld Met.none rfl agg3 ?_ | refine WXL.ldS Met.none rfl agg3 ?_
 refine WXL.nil ?_
 refine Fin.then_normal ?_
 refine WX.block ?_
 refine WX.seq ?_
 refine WX.region rfl ?_
 refine WXL.bin Met.none rfl rfl rfl ?_
 refine WXL.assign Met.none rfl ?_
 refine WXL.nil ?_
 refine Fin.then_normal ?_
 refine WX.cond rfl (fun hc0 => ?_) (fun hc0 => ?_)
 · try simp only [cnd] at hc0
   refine WX.seq ?_
   refine WX.region rfl ?_
   refine WXL.move Met.none rfl ?_
   refine WXL.fieldAddr (off' := 1) Met.none rfl Try.underlying48 rfl sz3 rfl ?_
   first | refine WXL.ld Met.none rfl agg3 ?_ | refine WXL.ldS Met.none rfl agg3 ?_
   refine WXL.fieldAddr (off' := 3) Met.none rfl Try.underlying48 rfl sz27 rfl ?_
   first | refine WXL.ld Met.none rfl agg27 ?_ | refine WXL.ldS Met.none rfl agg27 ?_
   refine WXL.cl (O1 := _) Met.none rfl (fnOk_of Try.func14 (by decide +kernel)) rfl (fun _ h => h) (diskAppend_ok _ d bm D mx o.file o.b o.a o.c hD (le_sat (le_cons hi)) (Src.cons (ho.row.src ho.nil)) ho.bytes) (fun v O' hp => ?_)
   obtain ⟨mx', N, rfl, rfl, hI⟩ := hp
   refine WXL.assign Met.none rfl ?_
   refine WXL.nil ?_
   refine Fin.then_normal ?_
   refine WX.ret ?_
   refine Fin.block_ret ?_
   refine Fin.then_ret ?_
   first
   | exact Fin.result (O' := dkO d bm (appendD D o.file o.b).2 mx' (N ++ R)) (.inr rfl) rfl rfl sub_ ⟨_, _, mx', N, rfl, rfl, hI, by unfold DoD; rw [if_pos hc0]; exact ⟨rfl, rfl⟩⟩
   | exact Fin.result (O' := dkO d bm (syncD D).2 mx' ([] ++ R)) (.inr rfl) rfl rfl sub_ ⟨_, _, mx', [], rfl, rfl, hI, by unfold DoD; rw [if_neg hc0, if_pos hc1]; exact ⟨rfl, rfl⟩⟩
   | exact Fin.result (O' := dkO d bm (truncD D o.file o.n).2 mx' ([] ++ R)) (.inr rfl) rfl rfl sub_ ⟨_, _, mx', [], rfl, rfl, hI, by unfold DoD; rw [if_neg hc0, if_neg hc1, if_pos hc2]; exact ⟨rfl, rfl⟩⟩
   | exact Fin.result (O' := dkO d bm D' mx' (N ++ R)) (.inr rfl) rfl rfl sub_ ⟨_, _, mx', N, rfl, rfl, hI, by unfold DoD; rw [if_neg hc0, if_neg hc1, if_neg hc2, if_neg hc3]; exact ⟨rfl, q1, q2, q3, q4⟩⟩
   | exact Fin.result (O' := dkO d bm (armD D o.n) mx ([] ++ R)) (.inr rfl) rfl rfl sub_ ⟨_, _, mx, [], rfl, rfl, hD.arm (by have := ho.nlt; omega), by unfold DoD; rw [if_neg hc0, if_neg hc1, if_neg hc2, if_pos hc3]; exact ⟨rfl, rfl⟩⟩
 · try simp only [cnd] at hc0
   refine WX.seq ?_
   refine WX.region rfl ?_
   refine WXL.bin Met.none rfl rfl rfl ?_
   refine WXL.assign Met.none rfl ?_
   refine WXL.nil ?_
   refine Fin.then_normal ?_
   refine WX.cond rfl (fun hc1 => ?_) (fun hc1 => ?_)
   · try simp only [cnd] at hc1
     refine WX.seq ?_
     refine WX.region rfl ?_
     refine WXL.move Met.none rfl ?_
     refine WXL.cl (O1 := _) Met.none rfl (fnOk_of Try.func15 (by decide +kernel)) rfl (fun _ h => h) (sync_ok _ d bm D mx hD) (fun v O' hp => ?_)
     obtain ⟨mx', rfl, rfl, hI⟩ := hp
     refine WXL.assign Met.none rfl ?_
     refine WXL.nil ?_
     refine Fin.then_normal ?_
     refine WX.ret ?_
     refine Fin.block_ret ?_
     refine Fin.then_ret ?_
     first
     | exact Fin.result (O' := dkO d bm (appendD D o.file o.b).2 mx' (N ++ R)) (.inr rfl) rfl rfl sub_ ⟨_, _, mx', N, rfl, rfl, hI, by unfold DoD; rw [if_pos hc0]; exact ⟨rfl, rfl⟩⟩
     | exact Fin.result (O' := dkO d bm (syncD D).2 mx' ([] ++ R)) (.inr rfl) rfl rfl sub_ ⟨_, _, mx', [], rfl, rfl, hI, by unfold DoD; rw [if_neg hc0, if_pos hc1]; exact ⟨rfl, rfl⟩⟩
     | exact Fin.result (O' := dkO d bm (truncD D o.file o.n).2 mx' ([] ++ R)) (.inr rfl) rfl rfl sub_ ⟨_, _, mx', [], rfl, rfl, hI, by unfold DoD; rw [if_neg hc0, if_neg hc1, if_pos hc2]; exact ⟨rfl, rfl⟩⟩
     | exact Fin.result (O' := dkO d bm D' mx' (N ++ R)) (.inr rfl) rfl rfl sub_ ⟨_, _, mx', N, rfl, rfl, hI, by unfold DoD; rw [if_neg hc0, if_neg hc1, if_neg hc2, if_neg hc3]; exact ⟨rfl, q1, q2, q3, q4⟩⟩
     | exact Fin.result (O' := dkO d bm (armD D o.n) mx ([] ++ R)) (.inr rfl) rfl rfl sub_ ⟨_, _, mx, [], rfl, rfl, hD.arm (by have := ho.nlt; omega), by unfold DoD; rw [if_neg hc0, if_neg hc1, if_neg hc2, if_pos hc3]; exact ⟨rfl, rfl⟩⟩
   · try simp only [cnd] at hc1
     refine WX.seq ?_
     refine WX.region rfl ?_
     refine WXL.bin Met.none rfl rfl rfl ?_
     refine WXL.assign Met.none rfl ?_
     refine WXL.nil ?_
     refine Fin.then_normal ?_
     refine WX.cond rfl (fun hc2 => ?_) (fun hc2 => ?_)
     · try simp only [cnd] at hc2
       refine WX.seq ?_
       refine WX.region rfl ?_
       refine WXL.move Met.none rfl ?_
       refine WXL.fieldAddr (off' := 1) Met.none rfl Try.underlying48 rfl sz3 rfl ?_
       first | refine WXL.ld Met.none rfl agg3 ?_ | refine WXL.ldS Met.none rfl agg3 ?_
       refine WXL.fieldAddr (off' := 2) Met.none rfl Try.underlying48 rfl sz3 rfl ?_
       first | refine WXL.ld Met.none rfl agg3 ?_ | refine WXL.ldS Met.none rfl agg3 ?_
       refine WXL.cl (O1 := _) Met.none rfl (fnOk_of Try.func20 (by decide +kernel)) rfl (fun _ h => h) (trunc_ok _ d bm D mx o.file o.n hD (le_sat (le_cons hi))) (fun v O' hp => ?_)
       obtain ⟨mx', rfl, rfl, hI⟩ := hp
       refine WXL.assign Met.none rfl ?_
       refine WXL.nil ?_
       refine Fin.then_normal ?_
       refine WX.ret ?_
       refine Fin.block_ret ?_
       refine Fin.then_ret ?_
       first
       | exact Fin.result (O' := dkO d bm (appendD D o.file o.b).2 mx' (N ++ R)) (.inr rfl) rfl rfl sub_ ⟨_, _, mx', N, rfl, rfl, hI, by unfold DoD; rw [if_pos hc0]; exact ⟨rfl, rfl⟩⟩
       | exact Fin.result (O' := dkO d bm (syncD D).2 mx' ([] ++ R)) (.inr rfl) rfl rfl sub_ ⟨_, _, mx', [], rfl, rfl, hI, by unfold DoD; rw [if_neg hc0, if_pos hc1]; exact ⟨rfl, rfl⟩⟩
       | exact Fin.result (O' := dkO d bm (truncD D o.file o.n).2 mx' ([] ++ R)) (.inr rfl) rfl rfl sub_ ⟨_, _, mx', [], rfl, rfl, hI, by unfold DoD; rw [if_neg hc0, if_neg hc1, if_pos hc2]; exact ⟨rfl, rfl⟩⟩
       | exact Fin.result (O' := dkO d bm D' mx' (N ++ R)) (.inr rfl) rfl rfl sub_ ⟨_, _, mx', N, rfl, rfl, hI, by unfold DoD; rw [if_neg hc0, if_neg hc1, if_neg hc2, if_neg hc3]; exact ⟨rfl, q1, q2, q3, q4⟩⟩
       | exact Fin.result (O' := dkO d bm (armD D o.n) mx ([] ++ R)) (.inr rfl) rfl rfl sub_ ⟨_, _, mx, [], rfl, rfl, hD.arm (by have := ho.nlt; omega), by unfold DoD; rw [if_neg hc0, if_neg hc1, if_neg hc2, if_pos hc3]; exact ⟨rfl, rfl⟩⟩
     · try simp only [cnd] at hc2
       refine WX.seq ?_
       refine WX.region rfl ?_
       refine WXL.bin Met.none rfl rfl rfl ?_
       refine WXL.assign Met.none rfl ?_
       refine WXL.nil ?_
       refine Fin.then_normal ?_
       refine WX.cond rfl (fun hc3 => ?_) (fun hc3 => ?_)
       · try simp only [cnd] at hc3
         refine WX.region rfl ?_
         refine WXL.move Met.none rfl ?_
         refine WXL.fieldAddr (off' := 2) Met.none rfl Try.underlying48 rfl sz3 rfl ?_
         first | refine WXL.ld Met.none rfl agg3 ?_ | refine WXL.ldS Met.none rfl agg3 ?_
         refine WXL.cl (O1 := _) Met.none rfl (fnOk_of Try.func28 (by decide +kernel)) rfl (fun _ h => h) (arm_ok _ d bm D mx o.n) (fun v O' hp => ?_)
         obtain rfl := hp
         refine WXL.nil ?_
         refine Fin.block_normal ?_
         refine Fin.then_normal ?_
         refine WX.seq ?_
         refine WX.region rfl ?_
         refine WXL.assign Met.none rfl ?_
         refine WXL.nil ?_
         refine Fin.then_normal ?_
         refine WX.ret ?_
         first
         | exact Fin.result (O' := dkO d bm (appendD D o.file o.b).2 mx' (N ++ R)) (.inr rfl) rfl rfl sub_ ⟨_, _, mx', N, rfl, rfl, hI, by unfold DoD; rw [if_pos hc0]; exact ⟨rfl, rfl⟩⟩
         | exact Fin.result (O' := dkO d bm (syncD D).2 mx' ([] ++ R)) (.inr rfl) rfl rfl sub_ ⟨_, _, mx', [], rfl, rfl, hI, by unfold DoD; rw [if_neg hc0, if_pos hc1]; exact ⟨rfl, rfl⟩⟩
         | exact Fin.result (O' := dkO d bm (truncD D o.file o.n).2 mx' ([] ++ R)) (.inr rfl) rfl rfl sub_ ⟨_, _, mx', [], rfl, rfl, hI, by unfold DoD; rw [if_neg hc0, if_neg hc1, if_pos hc2]; exact ⟨rfl, rfl⟩⟩
         | exact Fin.result (O' := dkO d bm D' mx' (N ++ R)) (.inr rfl) rfl rfl sub_ ⟨_, _, mx', N, rfl, rfl, hI, by unfold DoD; rw [if_neg hc0, if_neg hc1, if_neg hc2, if_neg hc3]; exact ⟨rfl, q1, q2, q3, q4⟩⟩
         | exact Fin.result (O' := dkO d bm (armD D o.n) mx ([] ++ R)) (.inr rfl) rfl rfl sub_ ⟨_, _, mx, [], rfl, rfl, hD.arm (by have := ho.nlt; omega), by unfold DoD; rw [if_neg hc0, if_neg hc1, if_neg hc2, if_pos hc3]; exact ⟨rfl, rfl⟩⟩
       · try simp only [cnd] at hc3
         refine WX.region rfl ?_
         refine WXL.move Met.none rfl ?_
         refine WXL.fieldAddr (off' := 4) Met.none rfl Try.underlying48 rfl sz33 rfl ?_
         first | refine WXL.ld Met.none rfl agg33 ?_ | refine WXL.ldS Met.none rfl agg33 ?_
         refine WXL.fieldAddr (off' := 2) Met.none rfl Try.underlying48 rfl sz3 rfl ?_
         first | refine WXL.ld Met.none rfl agg3 ?_ | refine WXL.ldS Met.none rfl agg3 ?_
         refine WXL.cl (O1 := _) Met.none rfl (fnOk_of Try.func16 (by decide +kernel)) rfl (fun _ h => h) (crash_ok _ d bm D mx o.keep o.ak o.ck o.n hD (le_cons hi) hroom ho.n64 ho.k64 (by have := ho.kshort; unfold Short; omega) (Src.cons (ho.krow.src ho.knil))) (fun v O' hp => ?_)
         obtain ⟨mx', N, D', rfl, hI, q1, q2, q3, q4⟩ := hp
         refine WXL.nil ?_
         refine Fin.block_normal ?_
         refine Fin.then_normal ?_
         refine WX.seq ?_
         refine WX.region rfl ?_
         refine WXL.assign Met.none rfl ?_
         refine WXL.nil ?_
         refine Fin.then_normal ?_
         refine WX.ret ?_
         first
         | exact Fin.result (O' := dkO d bm (appendD D o.file o.b).2 mx' (N ++ R)) (.inr rfl) rfl rfl sub_ ⟨_, _, mx', N, rfl, rfl, hI, by unfold DoD; rw [if_pos hc0]; exact ⟨rfl, rfl⟩⟩
         | exact Fin.result (O' := dkO d bm (syncD D).2 mx' ([] ++ R)) (.inr rfl) rfl rfl sub_ ⟨_, _, mx', [], rfl, rfl, hI, by unfold DoD; rw [if_neg hc0, if_pos hc1]; exact ⟨rfl, rfl⟩⟩
         | exact Fin.result (O' := dkO d bm (truncD D o.file o.n).2 mx' ([] ++ R)) (.inr rfl) rfl rfl sub_ ⟨_, _, mx', [], rfl, rfl, hI, by unfold DoD; rw [if_neg hc0, if_neg hc1, if_pos hc2]; exact ⟨rfl, rfl⟩⟩
         | exact Fin.result (O' := dkO d bm D' mx' (N ++ R)) (.inr rfl) rfl rfl sub_ ⟨_, _, mx', N, rfl, rfl, hI, by unfold DoD; rw [if_neg hc0, if_neg hc1, if_neg hc2, if_neg hc3]; exact ⟨rfl, q1, q2, q3, q4⟩⟩
         | exact Fin.result (O' := dkO d bm (armD D o.n) mx ([] ++ R)) (.inr rfl) rfl rfl sub_ ⟨_, _, mx, [], rfl, rfl, hD.arm (by have := ho.nlt; omega), by unfold DoD; rw [if_neg hc0, if_neg hc1, if_neg hc2, if_pos hc3]; exact ⟨rfl, rfl⟩⟩
theorem rdo_ok (R : Objs) {R0 : Objs} (r rb rf : Nat) (M : Rd) (vs : List Value) (o : OpV) (h : RdI R0 M vs) (hi : ∀ Q : Nat × Ent → Bool, R0.countP Q ≤ R.countP Q) (ho : OpK R o) :
  Spec Try.prog false 25 #[Ptr r 0, .agg (encV o).toArray] (rdO r rb rf M vs R) fun v O' => ∃ vs' N, v = I (doR M o).1 ∧ O' = rdO r rb rf (doR M o).2 vs' (N ++ R) ∧ RdI (N ++ R0) (doR M o).2 vs' := by
 refine Spec.enter (args := [_, _]) (m := 39) Try.func25 rfl rfl (by decide +kernel) fun h0 => ?_
 refine WX.seq ?_
 refine WX.region rfl ?_
 refine WXL.box (c := [_, _, _, _, _]) Met.none rfl rfl rfl (fun b3 => ?_)
 refine WXL.assign Met.none rfl ?_
 refine WXL.nil ?_
 refine Fin.then_normal ?_
 refine WX.seq ?_
 refine WX.seq ?_
 refine WX.re (O' := rdO r rb rf M vs ((b3, ⟨0, false, encV o⟩) :: R)) ?_ (fun _ hs => hs.tl [1, 2, 3, 0] 4)
 refine WX.region rfl ?_
 refine WXL.fieldAddr (off' := 0) Met.none rfl Try.underlying48 rfl sz3 rfl ?_
 first | refine WXL.ld Met.none rfl agg3 ?_ | refine WXL.ldS Met.none rfl agg3 ?_
 refine WXL.nil ?_
 refine Fin.then_normal ?_
 refine WX.block ?_
 refine WX.seq ?_
 refine WX.region rfl ?_
 refine WXL.bin Met.none rfl rfl rfl ?_
 refine WXL.assign Met.none rfl ?_
 refine WXL.nil ?_
 refine Fin.then_normal ?_
 refine WX.cond rfl (fun hc0 => ?_) (fun hc0 => ?_)
 · try simp only [cnd] at hc0
   refine WX.seq ?_
   refine WX.region rfl ?_
   refine WXL.move Met.none rfl ?_
   refine WXL.fieldAddr (off' := 1) Met.none rfl Try.underlying48 rfl sz3 rfl ?_
   first | refine WXL.ld Met.none rfl agg3 ?_ | refine WXL.ldS Met.none rfl agg3 ?_
   refine WXL.fieldAddr (off' := 3) Met.none rfl Try.underlying48 rfl sz27 rfl ?_
   first | refine WXL.ld Met.none rfl agg27 ?_ | refine WXL.ldS Met.none rfl agg27 ?_
   refine WXL.cl (O1 := _) Met.none rfl (fnOk_of Try.func42 (by decide +kernel)) rfl (fun _ h => h) (rappend_ok _ r rb rf M vs o.file o.b o.a o.c h (le_sat (le_cons hi)) (Src.cons (ho.row.src ho.nil)) ho.bytes (by have := ho.short; omega)) (fun v O' hp => ?_)
   obtain ⟨vs', N, rfl, rfl, hI⟩ := hp
   refine WXL.assign Met.none rfl ?_
   refine WXL.nil ?_
   refine Fin.then_normal ?_
   refine WX.ret ?_
   refine Fin.block_ret ?_
   refine Fin.then_ret ?_
   first
   | exact Fin.result (O' := rdO r rb rf (appendR M o.file o.b).2 vs' (N ++ R)) (.inr rfl) rfl rfl sub_ (by unfold doR; rw [if_pos hc0]; exact ⟨vs', N, rfl, rfl, hI⟩)
   | exact Fin.result (O' := rdO r rb rf (syncR M).2 vs ([] ++ R)) (.inr rfl) rfl rfl sub_ (by unfold doR; rw [if_neg hc0, if_pos hc1]; exact ⟨vs, [], rfl, rfl, hI⟩)
   | exact Fin.result (O' := rdO r rb rf (truncR M o.file o.n).2 vs' ([] ++ R)) (.inr rfl) rfl rfl sub_ (by unfold doR; rw [if_neg hc0, if_neg hc1, if_pos hc2]; exact ⟨vs', [], rfl, rfl, hI⟩)
   | exact Fin.result (O' := rdO r rb rf (crashR M o.keep o.n) vs' (N ++ R)) (.inr rfl) rfl rfl sub_ (by unfold doR; rw [if_neg hc0, if_neg hc1, if_neg hc2, if_neg hc3]; exact ⟨vs', N, rfl, rfl, hI⟩)
   | exact Fin.result (O' := rdO r rb rf (armR M o.n) vs ([] ++ R)) (.inr rfl) rfl rfl sub_ (by unfold doR; rw [if_neg hc0, if_neg hc1, if_neg hc2, if_pos hc3]; exact ⟨vs, [], rfl, rfl, h.arm (by have := ho.nlt; omega)⟩)
 · try simp only [cnd] at hc0
   refine WX.seq ?_
   refine WX.region rfl ?_
   refine WXL.bin Met.none rfl rfl rfl ?_
   refine WXL.assign Met.none rfl ?_
   refine WXL.nil ?_
   refine Fin.then_normal ?_
   refine WX.cond rfl (fun hc1 => ?_) (fun hc1 => ?_)
   · try simp only [cnd] at hc1
     refine WX.seq ?_
     refine WX.region rfl ?_
     refine WXL.move Met.none rfl ?_
     refine WXL.cl (O1 := _) Met.none rfl (fnOk_of Try.func43 (by decide +kernel)) rfl (fun _ h => h) (rsync_ok _ r rb rf M vs h) (fun v O' hp => ?_)
     obtain ⟨rfl, rfl, hI⟩ := hp
     refine WXL.assign Met.none rfl ?_
     refine WXL.nil ?_
     refine Fin.then_normal ?_
     refine WX.ret ?_
     refine Fin.block_ret ?_
     refine Fin.then_ret ?_
     first
     | exact Fin.result (O' := rdO r rb rf (appendR M o.file o.b).2 vs' (N ++ R)) (.inr rfl) rfl rfl sub_ (by unfold doR; rw [if_pos hc0]; exact ⟨vs', N, rfl, rfl, hI⟩)
     | exact Fin.result (O' := rdO r rb rf (syncR M).2 vs ([] ++ R)) (.inr rfl) rfl rfl sub_ (by unfold doR; rw [if_neg hc0, if_pos hc1]; exact ⟨vs, [], rfl, rfl, hI⟩)
     | exact Fin.result (O' := rdO r rb rf (truncR M o.file o.n).2 vs' ([] ++ R)) (.inr rfl) rfl rfl sub_ (by unfold doR; rw [if_neg hc0, if_neg hc1, if_pos hc2]; exact ⟨vs', [], rfl, rfl, hI⟩)
     | exact Fin.result (O' := rdO r rb rf (crashR M o.keep o.n) vs' (N ++ R)) (.inr rfl) rfl rfl sub_ (by unfold doR; rw [if_neg hc0, if_neg hc1, if_neg hc2, if_neg hc3]; exact ⟨vs', N, rfl, rfl, hI⟩)
     | exact Fin.result (O' := rdO r rb rf (armR M o.n) vs ([] ++ R)) (.inr rfl) rfl rfl sub_ (by unfold doR; rw [if_neg hc0, if_neg hc1, if_neg hc2, if_pos hc3]; exact ⟨vs, [], rfl, rfl, h.arm (by have := ho.nlt; omega)⟩)
   · try simp only [cnd] at hc1
     refine WX.seq ?_
     refine WX.region rfl ?_
     refine WXL.bin Met.none rfl rfl rfl ?_
     refine WXL.assign Met.none rfl ?_
     refine WXL.nil ?_
     refine Fin.then_normal ?_
     refine WX.cond rfl (fun hc2 => ?_) (fun hc2 => ?_)
     · try simp only [cnd] at hc2
       refine WX.seq ?_
       refine WX.region rfl ?_
       refine WXL.move Met.none rfl ?_
       refine WXL.fieldAddr (off' := 1) Met.none rfl Try.underlying48 rfl sz3 rfl ?_
       first | refine WXL.ld Met.none rfl agg3 ?_ | refine WXL.ldS Met.none rfl agg3 ?_
       refine WXL.fieldAddr (off' := 2) Met.none rfl Try.underlying48 rfl sz3 rfl ?_
       first | refine WXL.ld Met.none rfl agg3 ?_ | refine WXL.ldS Met.none rfl agg3 ?_
       refine WXL.cl (O1 := _) Met.none rfl (fnOk_of Try.func44 (by decide +kernel)) rfl (fun _ h => h) (rtrunc_ok _ r rb rf M vs o.file o.n h (le_sat (le_cons hi))) (fun v O' hp => ?_)
       obtain ⟨vs', rfl, rfl, hI⟩ := hp
       refine WXL.assign Met.none rfl ?_
       refine WXL.nil ?_
       refine Fin.then_normal ?_
       refine WX.ret ?_
       refine Fin.block_ret ?_
       refine Fin.then_ret ?_
       first
       | exact Fin.result (O' := rdO r rb rf (appendR M o.file o.b).2 vs' (N ++ R)) (.inr rfl) rfl rfl sub_ (by unfold doR; rw [if_pos hc0]; exact ⟨vs', N, rfl, rfl, hI⟩)
       | exact Fin.result (O' := rdO r rb rf (syncR M).2 vs ([] ++ R)) (.inr rfl) rfl rfl sub_ (by unfold doR; rw [if_neg hc0, if_pos hc1]; exact ⟨vs, [], rfl, rfl, hI⟩)
       | exact Fin.result (O' := rdO r rb rf (truncR M o.file o.n).2 vs' ([] ++ R)) (.inr rfl) rfl rfl sub_ (by unfold doR; rw [if_neg hc0, if_neg hc1, if_pos hc2]; exact ⟨vs', [], rfl, rfl, hI⟩)
       | exact Fin.result (O' := rdO r rb rf (crashR M o.keep o.n) vs' (N ++ R)) (.inr rfl) rfl rfl sub_ (by unfold doR; rw [if_neg hc0, if_neg hc1, if_neg hc2, if_neg hc3]; exact ⟨vs', N, rfl, rfl, hI⟩)
       | exact Fin.result (O' := rdO r rb rf (armR M o.n) vs ([] ++ R)) (.inr rfl) rfl rfl sub_ (by unfold doR; rw [if_neg hc0, if_neg hc1, if_neg hc2, if_pos hc3]; exact ⟨vs, [], rfl, rfl, h.arm (by have := ho.nlt; omega)⟩)
     · try simp only [cnd] at hc2
       refine WX.seq ?_
       refine WX.region rfl ?_
       refine WXL.bin Met.none rfl rfl rfl ?_
       refine WXL.assign Met.none rfl ?_
       refine WXL.nil ?_
       refine Fin.then_normal ?_
       refine WX.cond rfl (fun hc3 => ?_) (fun hc3 => ?_)
       · try simp only [cnd] at hc3
         refine WX.region rfl ?_
         refine WXL.move Met.none rfl ?_
         refine WXL.fieldAddr (off' := 2) Met.none rfl Try.underlying48 rfl sz3 rfl ?_
         first | refine WXL.ld Met.none rfl agg3 ?_ | refine WXL.ldS Met.none rfl agg3 ?_
         refine WXL.cl (O1 := _) Met.none rfl (fnOk_of Try.func45 (by decide +kernel)) rfl (fun _ h => h) (rarm_ok _ r rb rf M vs o.n) (fun v O' hp => ?_)
         obtain rfl := hp
         refine WXL.nil ?_
         refine Fin.block_normal ?_
         refine Fin.then_normal ?_
         refine WX.seq ?_
         refine WX.region rfl ?_
         refine WXL.assign Met.none rfl ?_
         refine WXL.nil ?_
         refine Fin.then_normal ?_
         refine WX.ret ?_
         first
         | exact Fin.result (O' := rdO r rb rf (appendR M o.file o.b).2 vs' (N ++ R)) (.inr rfl) rfl rfl sub_ (by unfold doR; rw [if_pos hc0]; exact ⟨vs', N, rfl, rfl, hI⟩)
         | exact Fin.result (O' := rdO r rb rf (syncR M).2 vs ([] ++ R)) (.inr rfl) rfl rfl sub_ (by unfold doR; rw [if_neg hc0, if_pos hc1]; exact ⟨vs, [], rfl, rfl, hI⟩)
         | exact Fin.result (O' := rdO r rb rf (truncR M o.file o.n).2 vs' ([] ++ R)) (.inr rfl) rfl rfl sub_ (by unfold doR; rw [if_neg hc0, if_neg hc1, if_pos hc2]; exact ⟨vs', [], rfl, rfl, hI⟩)
         | exact Fin.result (O' := rdO r rb rf (crashR M o.keep o.n) vs' (N ++ R)) (.inr rfl) rfl rfl sub_ (by unfold doR; rw [if_neg hc0, if_neg hc1, if_neg hc2, if_neg hc3]; exact ⟨vs', N, rfl, rfl, hI⟩)
         | exact Fin.result (O' := rdO r rb rf (armR M o.n) vs ([] ++ R)) (.inr rfl) rfl rfl sub_ (by unfold doR; rw [if_neg hc0, if_neg hc1, if_neg hc2, if_pos hc3]; exact ⟨vs, [], rfl, rfl, h.arm (by have := ho.nlt; omega)⟩)
       · try simp only [cnd] at hc3
         refine WX.region rfl ?_
         refine WXL.move Met.none rfl ?_
         refine WXL.fieldAddr (off' := 4) Met.none rfl Try.underlying48 rfl sz33 rfl ?_
         first | refine WXL.ld Met.none rfl agg33 ?_ | refine WXL.ldS Met.none rfl agg33 ?_
         refine WXL.fieldAddr (off' := 2) Met.none rfl Try.underlying48 rfl sz3 rfl ?_
         first | refine WXL.ld Met.none rfl agg3 ?_ | refine WXL.ldS Met.none rfl agg3 ?_
         refine WXL.cl (O1 := _) Met.none rfl (fnOk_of Try.func46 (by decide +kernel)) rfl (fun _ h => h) (rcrash_ok _ r rb rf M vs o.keep o.ak o.ck o.n h (le_cons hi) ho.n64 (by have := ho.kshort; unfold Short; omega) (Src.cons (ho.krow.src ho.knil))) (fun v O' hp => ?_)
         obtain ⟨vs', N, rfl, hI⟩ := hp
         refine WXL.nil ?_
         refine Fin.block_normal ?_
         refine Fin.then_normal ?_
         refine WX.seq ?_
         refine WX.region rfl ?_
         refine WXL.assign Met.none rfl ?_
         refine WXL.nil ?_
         refine Fin.then_normal ?_
         refine WX.ret ?_
         first
         | exact Fin.result (O' := rdO r rb rf (appendR M o.file o.b).2 vs' (N ++ R)) (.inr rfl) rfl rfl sub_ (by unfold doR; rw [if_pos hc0]; exact ⟨vs', N, rfl, rfl, hI⟩)
         | exact Fin.result (O' := rdO r rb rf (syncR M).2 vs ([] ++ R)) (.inr rfl) rfl rfl sub_ (by unfold doR; rw [if_neg hc0, if_pos hc1]; exact ⟨vs, [], rfl, rfl, hI⟩)
         | exact Fin.result (O' := rdO r rb rf (truncR M o.file o.n).2 vs' ([] ++ R)) (.inr rfl) rfl rfl sub_ (by unfold doR; rw [if_neg hc0, if_neg hc1, if_pos hc2]; exact ⟨vs', [], rfl, rfl, hI⟩)
         | exact Fin.result (O' := rdO r rb rf (crashR M o.keep o.n) vs' (N ++ R)) (.inr rfl) rfl rfl sub_ (by unfold doR; rw [if_neg hc0, if_neg hc1, if_neg hc2, if_neg hc3]; exact ⟨vs', N, rfl, rfl, hI⟩)
         | exact Fin.result (O' := rdO r rb rf (armR M o.n) vs ([] ++ R)) (.inr rfl) rfl rfl sub_ (by unfold doR; rw [if_neg hc0, if_neg hc1, if_neg hc2, if_pos hc3]; exact ⟨vs, [], rfl, rfl, h.arm (by have := ho.nlt; omega)⟩)
end Go.Proofs.Ytahaplbdhgfobaa.Eng
set_option linter.unusedVariables false
set_option linter.unusedSimpArgs false
set_option maxRecDepth 8000
namespace Go.Proofs.Ytahaplbdhgfobaa.Eng
theorem sim_new {room : Int} : Sim ⟨room, false, false, 0, []⟩ (newR room) :=
 ⟨rfl, rfl, .inr ⟨rfl, by show (-1 : Int) < 0; decide, by show (-2 : Int) ≤ -1; decide⟩, by unfold newR; simp, by unfold newR; simp, fun n hn => by
  unfold newR
  simp only
  rw [nth_replicate hn, nth_replicate hn]
  rfl⟩
structure TwoS where
 i : Nat
 D : Dk
 mx : MapX
 M : Rd
 vs : List Value
 N : Objs
structure TwoI (ops : List OpV) (room : Int) (N : Objs) (D : Dk) (mx : MapX) (M : Rd) (vs : List Value) : Prop where
 dk : DkI N D mx
 rd : RdI N M vs
 sim : Sim D M
 room : D.room = room
 ok : ∀ o ∈ ops, OpK N o
theorem DoD.room {D D' : Dk} {o : OpV} {e : Int} (h : DoD D o e D') : D'.room = D.room := by
 unfold DoD at h
 have hs : ∀ E : Dk, (stepD E).2.room = E.room := fun E => (stepD_fs E).2
 split at h
 · rw [h.2]; unfold appendD; split
   · rfl
   · split
     · rfl
     · split
       · rfl
       · rw [hs]; rfl
 split at h
 · rw [h.2]; unfold syncD; split
   · rfl
   · split <;> exact hs D
 split at h
 · rw [h.2]; unfold truncD; split
   · rfl
   · split
     · rfl
     · split <;> exact hs D
 split at h
 · rw [h.2]; unfold armD; split <;> rfl
 · exact h.2.1
theorem TwoI.both {ops : List OpV} {room : Int} {N X Y : Objs} {D D' : Dk} {mx mx' : MapX} {M : Rd} {vs vs' : List Value} {o : OpV} {e : Int} (h : TwoI ops room N D mx M vs) (hd : DoD D o e D') (h1 : DkI (X ++ N) D' mx') (h2 : RdI (Y ++ N) (doR M o).2 vs') :
  e = (doR M o).1 ∧ TwoI ops room (Y ++ (X ++ N)) D' mx' (doR M o).2 vs' := by
 obtain ⟨q1, q2⟩ := sim_do h.sim h.dk hd
 refine ⟨q1, h1.app, ?_, q2, by rw [hd.room]; exact h.room, fun o' ho' => (h.ok o' ho').app.app⟩
 refine ⟨h2.lenV, h2.lenB, h2.lenF, fun n hn => ?_, h2.room, h2.used, h2.plan, h2.firm⟩
 obtain ⟨a, c, e1, e2, e3⟩ := h2.file n hn
 exact ⟨a, c, e1, e2.mid, e3⟩
theorem made_ok (O : Objs) (room : Int) (l : List Int) (a : Option Addr) (c : Nat) (hr64 : In64 room) (hlen : Short l) (h64 : ∀ x ∈ l, In64 x) (hl : Src O 1 (.slice a l.length c) l.length (l.map I)) :
  Spec Try.prog false 27 #[I room, .slice a l.length c] O fun v O' => ∃ d bm D mx r rb rf M vs N, v = .tuple #[Ptr d 0, Ptr r 0] ∧ O' = dkO d bm D mx (rdO r rb rf M vs (N ++ O)) ∧ TwoI [] (12 + around room 40) N D mx M vs := by
 have hrr := around_range (n := room) (m := 40) (by decide)
 obtain ⟨k, hk⟩ : ∃ k, k = 12 + around room 40 := ⟨_, rfl⟩
 have hk2 : 12 ≤ k ∧ k ≤ 51 := by omega
 refine Spec.enter (args := [_, _]) (m := 50) Try.func27 rfl rfl (by decide +kernel) fun h0 => ?_
 refine WX.seq ?_
 refine WX.region rfl ?_
 refine WXL.assign Met.none rfl ?_
 refine WXL.assign Met.none rfl ?_
 refine WXL.nil ?_
 refine Fin.then_normal ?_
 refine WX.seq ?_
 refine WX.region rfl ?_
 refine WXL.move Met.none rfl ?_
 refine WXL.cl (O1 := _) Met.none rfl (fnOk_of Try.func12 (by decide +kernel)) rfl (fun _ h => h) (around_ok _ room 40 hr64 (by decide)) (fun v O' hp => ?_)
 obtain ⟨rfl, hO⟩ := hp
 subst O'
 refine WXL.bin Met.none rfl rfl bvA ?_
 refine WXL.assign Met.none rfl ?_
 refine WXL.nil ?_
 refine Fin.then_normal ?_
 refine WX.seq ?_
 refine WX.region rfl ?_
 refine WXL.move Met.none rfl ?_
 refine WXL.cl (O1 := _) Met.none rfl (fnOk_of Try.func11 (by decide +kernel)) rfl (fun _ h => h) (diskNew_good _ (12 + around room 40) (by omega)) (fun v O' hp => ?_)
 obtain ⟨d, bm, rfl, rfl⟩ := hp
 refine WXL.move Met.none rfl ?_
 refine WXL.extract Met.none rfl rfl ?_
 refine WXL.extract Met.none rfl rfl ?_
 refine WXL.assign Met.none rfl ?_
 refine WXL.assign Met.none rfl ?_
 refine WXL.nil ?_
 refine Fin.then_normal ?_
 refine WX.seq ?_
 refine WX.seq ?_
 refine WX.region rfl ?_
 refine WXL.move Met.none rfl ?_
 refine WXL.eqNilP Met.none rfl rfl Try.underlying23 ?_
 refine WXL.move Met.none rfl ?_
 refine WXL.split (d := 22) rfl (fun hg22 => ?_) (fun hg22 => ?_)
 · try simp only [cnd] at hg22
   exact (by simp at hg22)
 · try simp only [cnd] at hg22
   refine WXL.move (Met.some rfl rfl rfl) rfl ?_
   refine WXL.bin (Met.some rfl rfl rfl) rfl rfl rfl ?_
   refine WXL.pick_f Met.none rfl rfl ?_
   refine WXL.nil ?_
   refine Fin.then_normal ?_
   refine WX.cond rfl (fun hc0 => ?_) (fun hc0 => ?_)
   · try simp only [cnd] at hc0
     exact (by simp at hc0)
   · try simp only [cnd] at hc0
     refine WX.skip ?_
     refine Fin.then_normal ?_
     refine WX.seq ?_
     refine WX.region rfl ?_
     refine WXL.move Met.none rfl ?_
     refine WXL.cl (O1 := _) Met.none rfl (fnOk_of Try.func22 (by decide +kernel)) rfl (fun _ h => h) (rnew_ok _ (12 + around room 40)) (fun v O' hp => ?_)
     obtain ⟨r, rb, rf, rfl, rfl⟩ := hp
     refine WXL.assign Met.none rfl ?_
     refine WXL.nil ?_
     refine Fin.then_normal ?_
     refine WX.seq ?_
     refine WX.region rfl ?_
     refine WXL.move Met.none rfl ?_
     refine WXL.cl (O1 := _) Met.none rfl (fnOk_of Try.func23 (by decide +kernel)) rfl (fun _ h => h) (ops_ok _ l a c hlen h64 (Src.cons (Src.cons (Src.cons (Src.cons (Src.cons hl)))))) (fun v O' hp => ?_)
     obtain ⟨ao, co, ops, G, N0, rfl, hG, rfl, hol, hok⟩ := hp
     refine WXL.assign Met.none rfl ?_
     refine WXL.nil ?_
     refine Fin.then_normal ?_
     refine WX.seq ?_
     refine WX.seq ?_
     refine WX.region rfl ?_
     refine WXL.assign Met.none rfl ?_
     refine WXL.nil ?_
     refine Fin.then_normal ?_
     refine WX.block ?_
     rw [← hk]
     refine WX.re (O' := dkO d bm ⟨k, false, false, 0, []⟩ .new (rdO r rb rf (newR k) vs0 (G ++ (N0 ++ O)))) ?_
     refine WX.loop (fun q : TwoS => [(7, Ptr d 0), (9, Ptr r 0), (10, .slice ao ops.length co), (11, I (q.i : Int))]) (fun q => dkO d bm q.D q.mx (rdO r rb rf q.M q.vs (G ++ (q.N ++ O)))) (fun q => q.i ≤ ops.length ∧ TwoI ops k q.N q.D q.mx q.M q.vs) (fun q => ops.length - q.i) ⟨0, ⟨k, false, false, 0, []⟩, .new, newR k, vs0, N0⟩ ⟨Nat.zero_le _, by have h9 := (DkI.new (room := k) ⟨by omega, by omega⟩).app (N := N0); rw [List.append_nil] at h9; exact h9, by have h9 := (RdI.new (room := k) ⟨by omega, by omega⟩).app (N := N0); rw [List.append_nil] at h9; exact h9, sim_new, rfl, hok⟩ (fun s hs => hs.tl [] 0) (fun q hq => ?_)
     obtain ⟨i, D, mx, M, vs, N⟩ := q
     obtain ⟨hi, hT⟩ := hq
     simp only at hi hT
     dsimp only
     refine WX.seq ?_
     refine WX.seq ?_
     refine WX.region rfl ?_
     refine WXL.move Met.none rfl ?_
     refine WXL.move Met.none rfl ?_
     refine WXL.len Met.none rfl Try.underlying44 ?_
     refine WXL.bin Met.none rfl rfl rfl ?_
     refine WXL.nil ?_
     refine Fin.then_normal ?_
     refine WX.cond rfl (fun hc1 => ?_) (fun hc1 => ?_)
     · try simp only [cnd] at hc1
       refine WX.skip ?_
       refine Fin.then_normal ?_
       refine WX.seq ?_
       refine WX.block ?_
       refine WX.seq ?_
       have hio : i < ops.length := by omega
       have hoN := hT.ok _ (nth_mem hio)
       refine WX.region rfl ?_
       refine WXL.move Met.none rfl ?_
       refine WXL.move Met.none rfl ?_
       refine WXL.move Met.none rfl ?_
       first | refine WXL.ix Met.none rfl rfl elem44 sz48 ?_ | refine WXL.ixS Met.none rfl rfl elem44 sz48 ?_
       first | refine WXL.ldN Met.none rfl agg48 sz48 ?_ (hv := (cellsAt_flat encV_len _ _ hio)) | refine WXL.ldNS Met.none rfl agg48 sz48 ?_ (hv := (cellsAt_flat encV_len _ _ hio))
       refine WXL.cl (O1 := _) Met.none rfl (fnOk_of Try.func24 (by decide +kernel)) rfl (fun _ h => h) (do_ok _ d bm D mx (nth ops i) hT.dk (by intro Q; simp only [List.countP_append, List.countP_cons]; omega) (by rw [hT.room]; omega) (hoN.inc fun g hg => hg.sub (by intro Q; simp only [List.countP_append, List.countP_cons]; omega))) (fun v O' hp => ?_)
       obtain ⟨e, D', mx', N', rfl, rfl, hD', hdo⟩ := hp
       refine WXL.nil ?_
       refine Fin.then_normal ?_
       refine WX.re (O' := rdO r rb rf M vs (dkO d bm D' mx' (G ++ (N' ++ (N ++ O))))) ?_
       refine WX.region rfl ?_
       refine WXL.move Met.none rfl ?_
       refine WXL.move Met.none rfl ?_
       refine WXL.move Met.none rfl ?_
       first | refine WXL.ix Met.none rfl rfl elem44 sz48 ?_ | refine WXL.ixS Met.none rfl rfl elem44 sz48 ?_
       first | refine WXL.ldN Met.none rfl agg48 sz48 ?_ (hv := (cellsAt_flat encV_len _ _ hio)) | refine WXL.ldNS Met.none rfl agg48 sz48 ?_ (hv := (cellsAt_flat encV_len _ _ hio))
       refine WXL.cl (O1 := _) Met.none rfl (fnOk_of Try.func25 (by decide +kernel)) rfl (fun _ h => h) (rdo_ok _ r rb rf M vs (nth ops i) hT.rd (by intro Q; simp only [List.countP_append, List.countP_cons]; omega) (hoN.inc fun g hg => hg.sub (by intro Q; simp only [List.countP_append, List.countP_cons]; omega))) (fun v O' hp => ?_)
       obtain ⟨vs', N2, rfl, rfl, hM'⟩ := hp
       refine WXL.nil ?_
       refine Fin.block_normal ?_
       refine Fin.then_normal ?_
       refine WX.re (O' := dkO d bm D' mx' (rdO r rb rf (doR M (nth ops i)).2 vs' (G ++ ((N2 ++ (N' ++ N)) ++ O)))) ?_
       refine WX.region rfl ?_
       refine WXL.move Met.none rfl ?_
       refine WXL.bin Met.none rfl rfl bvA ?_
       refine WXL.assign Met.none rfl ?_
       refine WXL.nil ?_
       exact Fin.loop_next (⟨i + 1, D', mx', (doR M (nth ops i)).2, vs', N2 ++ (N' ++ N)⟩ : TwoS) ⟨by simp only; omega, (hT.both hdo hD' hM').2⟩ (by simp only; omega) (fun s hs => hs.tl [] 0)
     · try simp only [cnd] at hc1
       refine WX.exit ?_
       refine Fin.then_exit ?_
       refine Fin.loop_exit ?_
       refine Fin.block_hit rfl ?_
       refine Fin.then_normal ?_
       refine WX.seq ?_
       refine WX.region rfl ?_
       refine WXL.move Met.none rfl ?_
       refine WXL.move Met.none rfl ?_
       refine WXL.assign Met.none rfl ?_
       refine WXL.assign Met.none rfl ?_
       refine WXL.nil ?_
       refine Fin.then_normal ?_
       refine WX.ret ?_
       exact Fin.result (O' := dkO d bm D mx (rdO r rb rf M vs ((G ++ N) ++ O))) (.inr rfl) rfl rfl sub_ ⟨d, bm, D, mx, r, rb, rf, M, vs, G ++ N, rfl, rfl, by exact ⟨hT.dk.app, hT.rd.app, hT.sim, hT.room, fun o ho => by simp at ho⟩⟩
end Go.Proofs.Ytahaplbdhgfobaa.Eng
set_option linter.unusedVariables false
set_option linter.unusedSimpArgs false
set_option maxRecDepth 8000
namespace Go.Proofs.Ytahaplbdhgfobaa.Eng
theorem on_q (R : Objs) (d bm : Nat) (D : Dk) (mx : MapX) : Spec Try.prog true 29 #[Ptr d 0] (dkO d bm D mx R) fun v O' => v = .bool (!D.off) ∧ O' = dkO d bm D mx R := by
 refine Spec.enter (args := [_]) (m := 8) Try.func29 rfl rfl (by decide +kernel) fun h0 => ?_
 refine WX.seq ?_
 refine WX.region rfl ?_
 refine WXL.assign Met.none rfl ?_
 refine WXL.nil ?_
 refine Fin.then_normal ?_
 refine WX.seq ?_
 refine WX.region rfl ?_
 refine WXL.move Met.none rfl ?_
 refine WXL.nilCheck Met.none rfl ?_
 first | refine WXL.fieldAddr Met.none rfl Try.underlying68 rfl sz4 rfl ?_ | refine WXL.faS Met.none rfl Try.underlying68 rfl sz4 ?_
 first | refine WXL.ld Met.none rfl agg4 ?_ | refine WXL.ldS Met.none rfl agg4 ?_
 refine WXL.not Met.none rfl ?_
 refine WXL.assign Met.none rfl ?_
 refine WXL.nil ?_
 refine Fin.then_normal ?_
 refine WX.ret ?_
 exact Fin.result (.inr rfl) rfl rfl drop_ ⟨rfl, rfl⟩
theorem same_on (R : Objs) {R0 : Objs} (d bm : Nat) (D : Dk) (mx : MapX) (r rb rf : Nat) (M : Rd) (vs : List Value) (hD : DkI R0 D mx) (hM : RdI R0 M vs) (hS : Sim D M) (hi : ∀ Q : Nat × Ent → Bool, R0.countP Q ≤ R.countP Q) (hoff : D.off = false) :
  Spec Try.prog false 26 #[Ptr d 0, Ptr r 0] (dkO d bm D mx (rdO r rb rf M vs R)) fun v O' => v = .bool true ∧ ∃ N, O' = dkO d bm D mx (rdO r rb rf M vs (N ++ R)) := by
 have hu := hS.used hD
 have hmo : M.off = false := by rw [hS.off]; exact hoff
 have hff := fnos_files hS hD
 have hfl : (filesR M).length = (fnos D).length := by rw [hff, List.length_map]
 have hfc : castV (filesR M) = (fnos D).map I := by rw [hff, List.map_map]; rfl
 have hfs := fnos_len hD
 refine Spec.enter (args := [_, _]) (m := 74) Try.func26 rfl rfl (by decide +kernel) fun h0 => ?_
 refine WX.seq ?_
 refine WX.region rfl ?_
 refine WXL.assign Met.none rfl ?_
 refine WXL.nil ?_
 refine Fin.then_normal ?_
 refine WX.seq ?_
 refine WX.seq ?_
 refine WX.draw rfl ?_
 refine WXL.move Met.none rfl ?_
 refine WXL.cl (O1 := _) Met.none rfl (fnOk_of Try.func21 (by decide +kernel)) rfl (fun _ h => h) (used_ok _ _ d bm D mx hD) (fun v O' hp => ?_)
 obtain ⟨rfl, hO⟩ := hp
 subst O'
 refine WXL.move Met.none rfl ?_
 refine WXL.cl (O1 := rdO r rb rf M vs (dkO d bm D mx R)) Met.none rfl (fnOk_of Try.func47 (by decide +kernel)) rfl sub_ (rused_ok _ r rb rf M vs hM) (fun v O' hp => ?_)
 obtain ⟨rfl, hO⟩ := hp
 subst O'
 rw [hu]
 refine WXL.bin Met.none rfl rfl rfl ?_
 refine WXL.move Met.none rfl ?_
 refine WXL.split (d := 13) rfl (fun hg13 => ?_) (fun hg13 => ?_)
 · try simp only [cnd] at hg13
   exact (by simp at hg13)
 · try simp only [cnd] at hg13
   refine WXL.move (Met.some rfl rfl rfl) rfl ?_
   refine WXL.cl (O1 := dkO d bm D mx (rdO r rb rf M vs R)) (Met.some rfl rfl rfl) rfl (fnOk_of Try.func29 (by decide +kernel)) rfl sub_ (on_q _ d bm D mx) (fun v O' hp => ?_)
   obtain ⟨rfl, hO⟩ := hp
   subst O'
   refine WXL.move (Met.some rfl rfl rfl) rfl ?_
   refine WXL.nilCheck (Met.some rfl rfl rfl) rfl ?_
   first | refine WXL.fieldAddr (Met.some rfl rfl rfl) rfl Try.underlying58 rfl sz4 rfl ?_ | refine WXL.faS (Met.some rfl rfl rfl) rfl Try.underlying58 rfl sz4 ?_
   first | refine WXL.ld (Met.some rfl rfl rfl) rfl agg4 ?_ | refine WXL.ldS (Met.some rfl rfl rfl) rfl agg4 ?_
   refine WXL.eqB (Met.some rfl rfl rfl) rfl rfl Try.underlying4 ?_
   refine WXL.pick_f Met.none rfl rfl ?_
   refine WXL.move Met.none rfl ?_
   refine WXL.split (d := 22) rfl (fun hg22 => ?_) (fun hg22 => ?_)
   · try simp only [cnd] at hg22
     exact (by rw [hS.off] at hg22; revert hg22; cases D.off <;> simp)
   · try simp only [cnd] at hg22
     refine WXL.move (Met.some rfl rfl rfl) rfl ?_
     refine WXL.cl (O1 := _) (Met.some rfl rfl rfl) rfl (fnOk_of Try.func41 (by decide +kernel)) rfl (fun _ h => h) (files_ok _ _ d bm D mx hD) (fun v O' hp => ?_)
     obtain ⟨a1, c1, G1, rfl, hG1, rfl⟩ := hp
     refine WXL.move (Met.some rfl rfl rfl) rfl ?_
     refine WXL.cl (O1 := rdO r rb rf M vs (G1 ++ (dkO d bm D mx R))) (Met.some rfl rfl rfl) rfl (fnOk_of Try.func49 (by decide +kernel)) rfl sub_ (rfiles_ok _ r rb rf M vs hM) (fun v O' hp => ?_)
     obtain ⟨a2, c2, G2, rfl, hG2, rfl⟩ := hp
     rw [hfl, hfc] at hG2; rw [hfl]
     refine WXL.cl (O1 := _) (Met.some rfl rfl rfl) rfl (fnOk_of Try.func48 (by decide +kernel)) rfl (fun _ h => h) (sameI_ok _ (fnos D) (fnos D) a1 a2 c1 c2 (by unfold Short; omega) src_ src_) (fun v O' hp => ?_)
     obtain ⟨rfl, hO⟩ := hp
     subst O'
     refine WXL.not (Met.some rfl rfl rfl) rfl ?_
     refine WXL.pick_f Met.none rfl rfl ?_
     refine WXL.nil ?_
     refine Fin.then_normal ?_
     refine WX.cond rfl (fun hc0 => ?_) (fun hc0 => ?_)
     · try simp only [cnd] at hc0
       exact (by simp at hc0)
     · try simp only [cnd] at hc0
       refine WX.skip ?_
       refine Fin.then_normal ?_
       refine WX.seq ?_
       refine WX.seq ?_
       refine WX.region rfl ?_
       refine WXL.assign Met.none rfl ?_
       refine WXL.nil ?_
       refine Fin.then_normal ?_
       refine WX.block ?_
       obtain ⟨B, hB⟩ : ∃ B, B = G2 ++ (G1 ++ R) := ⟨_, rfl⟩
       have hiB : ∀ Q : Nat × Ent → Bool, R0.countP Q ≤ B.countP Q := fun Q => by
        have := hi Q
        rw [hB, List.countP_append, List.countP_append]
        omega
       refine WX.re (O' := dkO d bm D mx (rdO r rb rf M vs B)) ?_ (by rw [hB]; exact sub_)
       refine WX.loop (fun i : Nat => [(0, Ptr d 0), (1, Ptr r 0), (5, I (i : Int))]) (fun _ => dkO d bm D mx (rdO r rb rf M vs B)) (fun i => i ≤ 4) (fun i => 4 - i) 0 (by decide) (fun s hs => hs.tl [] 0) (fun i hi4 => ?_)
       refine WX.seq ?_
       refine WX.seq ?_
       refine WX.region rfl ?_
       refine WXL.move Met.none rfl ?_
       refine WXL.bin Met.none rfl rfl rfl ?_
       refine WXL.nil ?_
       refine Fin.then_normal ?_
       refine WX.cond rfl (fun hc1 => ?_) (fun hc1 => ?_)
       · try simp only [cnd] at hc1
         refine WX.skip ?_
         refine Fin.then_normal ?_
         refine WX.seq ?_
         refine WX.block ?_
         refine WX.seq ?_
         have hi64 : i < 64 := by omega
         have hb := hS.file i hi64
         obtain ⟨ax, cx, hvx, hrx0, hnx, hBx⟩ := hM.file i hi64
         have hrx : Rowy B 1 ax (nth M.B i).length ((nth M.B i).map B8) := hrx0.inc fun g hg => hg.sub hiB
         have hv : vs[i]? = some (.slice ax (nth M.B i).length cx) := by rw [← hvx]; exact nth_eq (by rw [hM.lenV]; exact hi64)
         have hxl := hM.len hi64
         have hxs : Short (nth M.B i) := by unfold Short; omega
         have hrd : readD D (i : Nat) = (nth M.B i, 0) := by unfold readD; rw [if_neg (by omega)]; rw [if_neg (by rw [hoff]; simp), hb]
         refine WX.region rfl ?_
         refine WXL.move Met.none rfl ?_
         refine WXL.move Met.none rfl ?_
         refine WXL.cl (O1 := _) Met.none rfl (fnOk_of Try.func17 (by decide +kernel)) rfl (fun _ h => h) (diskRead_ok _ d bm D mx (i : Nat) hD (fun g hg => hg.sub (by intro Q; have := hiB Q; simp only [List.countP_cons]; omega))) (fun v O' hp => ?_)
         obtain ⟨a3, c3, G3, rfl, hG3, rfl⟩ := hp
         rw [hrd] at hG3 ⊢
         dsimp only at hG3 ⊢
         refine WXL.move Met.none rfl ?_
         refine WXL.extract Met.none rfl rfl ?_
         refine WXL.extract Met.none rfl rfl ?_
         refine WXL.assign Met.none rfl ?_
         refine WXL.assign Met.none rfl ?_
         refine WXL.nil ?_
         refine Fin.then_normal ?_
         refine WX.seq ?_
         refine WX.seq ?_
         refine WX.re (O' := rdO r rb rf M vs (G3 ++ (dkO d bm D mx B))) ?_
         refine WX.region rfl ?_
         refine WXL.move Met.none rfl ?_
         refine WXL.nilCheck Met.none rfl ?_
         first | refine WXL.fieldAddr Met.none rfl Try.underlying58 rfl sz4 rfl ?_ | refine WXL.faS Met.none rfl Try.underlying58 rfl sz4 ?_
         first | refine WXL.ld Met.none rfl agg4 ?_ | refine WXL.ldS Met.none rfl agg4 ?_
         refine WXL.move Met.none rfl ?_
         refine WXL.split (d := 44) rfl (fun hg44 => ?_) (fun hg44 => ?_)
         · try simp only [cnd] at hg44
           exact absurd hg44 (by rw [hmo]; simp)
         · try simp only [cnd] at hg44
           refine WXL.miss (j := 4) (d := 44) rfl rfl rfl ?_
           refine WXL.miss (j := 4) (d := 44) rfl rfl rfl ?_
           refine WXL.miss (j := 4) (d := 44) rfl rfl rfl ?_
           refine WXL.missU (j := 7) (e := 47) rfl rfl ?_
           refine WXL.missU (j := 7) (e := 47) rfl rfl ?_
           refine WXL.missU (j := 7) (e := 47) rfl rfl ?_
           refine WXL.miss (j := 4) (d := 44) rfl rfl rfl ?_
           refine WXL.pick_f Met.none rfl rfl ?_
           refine WXL.nil ?_
           refine Fin.then_normal ?_
           refine WX.cond rfl (fun hc2 => nomatch hc2) (fun hc2 => ?_)
           refine WX.skip ?_
           refine Fin.then_normal ?_
           refine WX.seq ?_
           refine WX.region rfl ?_
           refine WXL.move Met.none rfl ?_
           refine WXL.nilCheck Met.none rfl ?_
           first | refine WXL.fieldAddr Met.none rfl Try.underlying58 rfl sz4 rfl ?_ | refine WXL.faS Met.none rfl Try.underlying58 rfl sz4 ?_
           first | refine WXL.ld Met.none rfl agg4 ?_ | refine WXL.ldS Met.none rfl agg4 ?_
           refine WXL.not Met.none rfl ?_
           refine WXL.move Met.none rfl ?_
           refine WXL.split (d := 58) rfl (fun hg58 => ?_) (fun hg58 => ?_)
           · try simp only [cnd] at hg58
             refine WXL.move (Met.some rfl rfl rfl) rfl ?_
             refine WXL.bin (Met.some rfl rfl rfl) rfl rfl rfl ?_
             refine WXL.move (Met.some rfl rfl rfl) rfl ?_
             refine WXL.split (d := 61) rfl (fun hg61 => ?_) (fun hg61 => ?_)
             · try simp only [cnd] at hg61
               exact (by simp at hg61)
             · try simp only [cnd] at hg61
               refine WXL.move (Met.some rfl rfl rfl) rfl ?_
               refine WXL.move (Met.some rfl rfl rfl) rfl ?_
               refine WXL.nilCheck (Met.some rfl rfl rfl) rfl ?_
               first | refine WXL.fieldAddr (Met.some rfl rfl rfl) rfl Try.underlying58 rfl sz22 rfl ?_ | refine WXL.faS (Met.some rfl rfl rfl) rfl Try.underlying58 rfl sz22 ?_
               first | refine WXL.ld (Met.some rfl rfl rfl) rfl agg22 ?_ | refine WXL.ldS (Met.some rfl rfl rfl) rfl agg22 ?_
               refine WXL.move (Met.some rfl rfl rfl) rfl ?_
               first | refine WXL.ix (Met.some rfl rfl rfl) rfl rfl elem22 sz27 ?_ | refine WXL.ixS (Met.some rfl rfl rfl) rfl rfl elem22 sz27 ?_
               first | refine WXL.ld (Met.some rfl rfl rfl) rfl agg27 ?_ (hv := hv) | refine WXL.ldS (Met.some rfl rfl rfl) rfl agg27 ?_ (hv := hv)
               refine WXL.cl (O1 := _) (Met.some rfl rfl rfl) rfl (fnOk_of Try.func18 (by decide +kernel)) rfl (fun _ h => h) (sameB_ok _ (nth M.B i) (nth M.B i) a3 ax c3 cx hxs src_ (Src.cons (Src.cons (Src.cons (Src.app (Src.cons (Src.cons (hrx.src hnx)))))))) (fun v O' hp => ?_)
               obtain ⟨rfl, hO⟩ := hp
               subst O'
               refine WXL.not (Met.some rfl rfl rfl) rfl ?_
               refine WXL.pick_f (Met.some rfl rfl rfl) rfl rfl ?_
               refine WXL.pick_t Met.none rfl rfl ?_
               refine WXL.nil ?_
               refine Fin.then_normal ?_
               refine WX.cond rfl (fun hc3 => ?_) (fun hc3 => ?_)
               · try simp only [cnd] at hc3
                 exact (by simp at hc3)
               · try simp only [cnd] at hc3
                 refine WX.skip ?_
                 refine Fin.block_normal ?_
                 refine Fin.then_normal ?_
                 refine WX.re (O' := dkO d bm D mx (rdO r rb rf M vs B)) ?_
                 refine WX.region rfl ?_
                 refine WXL.move Met.none rfl ?_
                 refine WXL.bin Met.none rfl rfl bvA ?_
                 refine WXL.assign Met.none rfl ?_
                 refine WXL.nil ?_
                 exact Fin.loop_next (i + 1) (by omega) (by omega) (fun s hs => hs.tl [] 0)
           · try simp only [cnd] at hg58
             exact absurd hmo (by simpa using hg58)
       · try simp only [cnd] at hc1
         refine WX.exit ?_
         refine Fin.then_exit ?_
         refine Fin.loop_exit ?_
         refine Fin.block_hit rfl ?_
         refine Fin.then_normal ?_
         refine WX.seq ?_
         refine WX.region rfl ?_
         refine WXL.assign Met.none rfl ?_
         refine WXL.nil ?_
         refine Fin.then_normal ?_
         refine WX.ret ?_
         exact Fin.result (O' := dkO d bm D mx (rdO r rb rf M vs ((G2 ++ G1) ++ R))) (.inr rfl) rfl rfl (fun g hg => by rw [hB] at hg; exact hg.sub (by intro Q; simp only [List.countP_append, List.countP_cons]; omega)) ⟨rfl, G2 ++ G1, rfl⟩
theorem same_off (R : Objs) {R0 : Objs} (d bm : Nat) (D : Dk) (mx : MapX) (r rb rf : Nat) (M : Rd) (vs : List Value) (hD : DkI R0 D mx) (hM : RdI R0 M vs) (hS : Sim D M) (hi : ∀ Q : Nat × Ent → Bool, R0.countP Q ≤ R.countP Q) (hoff : D.off = true) :
  Spec Try.prog false 26 #[Ptr d 0, Ptr r 0] (dkO d bm D mx (rdO r rb rf M vs R)) fun v O' => v = .bool true ∧ ∃ N, O' = dkO d bm D mx (rdO r rb rf M vs (N ++ R)) := by
 have hu := hS.used hD
 have hmo : M.off = true := by rw [hS.off]; exact hoff
 have hff := fnos_files hS hD
 have hfl : (filesR M).length = (fnos D).length := by rw [hff, List.length_map]
 have hfc : castV (filesR M) = (fnos D).map I := by rw [hff, List.map_map]; rfl
 have hfs := fnos_len hD
 refine Spec.enter (args := [_, _]) (m := 74) Try.func26 rfl rfl (by decide +kernel) fun h0 => ?_
 refine WX.seq ?_
 refine WX.region rfl ?_
 refine WXL.assign Met.none rfl ?_
 refine WXL.nil ?_
 refine Fin.then_normal ?_
 refine WX.seq ?_
 refine WX.seq ?_
 refine WX.draw rfl ?_
 refine WXL.move Met.none rfl ?_
 refine WXL.cl (O1 := _) Met.none rfl (fnOk_of Try.func21 (by decide +kernel)) rfl (fun _ h => h) (used_ok _ _ d bm D mx hD) (fun v O' hp => ?_)
 obtain ⟨rfl, hO⟩ := hp
 subst O'
 refine WXL.move Met.none rfl ?_
 refine WXL.cl (O1 := rdO r rb rf M vs (dkO d bm D mx R)) Met.none rfl (fnOk_of Try.func47 (by decide +kernel)) rfl sub_ (rused_ok _ r rb rf M vs hM) (fun v O' hp => ?_)
 obtain ⟨rfl, hO⟩ := hp
 subst O'
 rw [hu]
 refine WXL.bin Met.none rfl rfl rfl ?_
 refine WXL.move Met.none rfl ?_
 refine WXL.split (d := 13) rfl (fun hg13 => ?_) (fun hg13 => ?_)
 · try simp only [cnd] at hg13
   exact (by simp at hg13)
 · try simp only [cnd] at hg13
   refine WXL.move (Met.some rfl rfl rfl) rfl ?_
   refine WXL.cl (O1 := dkO d bm D mx (rdO r rb rf M vs R)) (Met.some rfl rfl rfl) rfl (fnOk_of Try.func29 (by decide +kernel)) rfl sub_ (on_q _ d bm D mx) (fun v O' hp => ?_)
   obtain ⟨rfl, hO⟩ := hp
   subst O'
   refine WXL.move (Met.some rfl rfl rfl) rfl ?_
   refine WXL.nilCheck (Met.some rfl rfl rfl) rfl ?_
   first | refine WXL.fieldAddr (Met.some rfl rfl rfl) rfl Try.underlying58 rfl sz4 rfl ?_ | refine WXL.faS (Met.some rfl rfl rfl) rfl Try.underlying58 rfl sz4 ?_
   first | refine WXL.ld (Met.some rfl rfl rfl) rfl agg4 ?_ | refine WXL.ldS (Met.some rfl rfl rfl) rfl agg4 ?_
   refine WXL.eqB (Met.some rfl rfl rfl) rfl rfl Try.underlying4 ?_
   refine WXL.pick_f Met.none rfl rfl ?_
   refine WXL.move Met.none rfl ?_
   refine WXL.split (d := 22) rfl (fun hg22 => ?_) (fun hg22 => ?_)
   · try simp only [cnd] at hg22
     exact (by rw [hS.off] at hg22; revert hg22; cases D.off <;> simp)
   · try simp only [cnd] at hg22
     refine WXL.move (Met.some rfl rfl rfl) rfl ?_
     refine WXL.cl (O1 := _) (Met.some rfl rfl rfl) rfl (fnOk_of Try.func41 (by decide +kernel)) rfl (fun _ h => h) (files_ok _ _ d bm D mx hD) (fun v O' hp => ?_)
     obtain ⟨a1, c1, G1, rfl, hG1, rfl⟩ := hp
     refine WXL.move (Met.some rfl rfl rfl) rfl ?_
     refine WXL.cl (O1 := rdO r rb rf M vs (G1 ++ (dkO d bm D mx R))) (Met.some rfl rfl rfl) rfl (fnOk_of Try.func49 (by decide +kernel)) rfl sub_ (rfiles_ok _ r rb rf M vs hM) (fun v O' hp => ?_)
     obtain ⟨a2, c2, G2, rfl, hG2, rfl⟩ := hp
     rw [hfl, hfc] at hG2; rw [hfl]
     refine WXL.cl (O1 := _) (Met.some rfl rfl rfl) rfl (fnOk_of Try.func48 (by decide +kernel)) rfl (fun _ h => h) (sameI_ok _ (fnos D) (fnos D) a1 a2 c1 c2 (by unfold Short; omega) src_ src_) (fun v O' hp => ?_)
     obtain ⟨rfl, hO⟩ := hp
     subst O'
     refine WXL.not (Met.some rfl rfl rfl) rfl ?_
     refine WXL.pick_f Met.none rfl rfl ?_
     refine WXL.nil ?_
     refine Fin.then_normal ?_
     refine WX.cond rfl (fun hc0 => ?_) (fun hc0 => ?_)
     · try simp only [cnd] at hc0
       exact (by simp at hc0)
     · try simp only [cnd] at hc0
       refine WX.skip ?_
       refine Fin.then_normal ?_
       refine WX.seq ?_
       refine WX.seq ?_
       refine WX.region rfl ?_
       refine WXL.assign Met.none rfl ?_
       refine WXL.nil ?_
       refine Fin.then_normal ?_
       refine WX.block ?_
       obtain ⟨B, hB⟩ : ∃ B, B = G2 ++ (G1 ++ R) := ⟨_, rfl⟩
       have hiB : ∀ Q : Nat × Ent → Bool, R0.countP Q ≤ B.countP Q := fun Q => by
        have := hi Q
        rw [hB, List.countP_append, List.countP_append]
        omega
       refine WX.re (O' := dkO d bm D mx (rdO r rb rf M vs B)) ?_ (by rw [hB]; exact sub_)
       refine WX.loop (fun i : Nat => [(0, Ptr d 0), (1, Ptr r 0), (5, I (i : Int))]) (fun _ => dkO d bm D mx (rdO r rb rf M vs B)) (fun i => i ≤ 4) (fun i => 4 - i) 0 (by decide) (fun s hs => hs.tl [] 0) (fun i hi4 => ?_)
       refine WX.seq ?_
       refine WX.seq ?_
       refine WX.region rfl ?_
       refine WXL.move Met.none rfl ?_
       refine WXL.bin Met.none rfl rfl rfl ?_
       refine WXL.nil ?_
       refine Fin.then_normal ?_
       refine WX.cond rfl (fun hc1 => ?_) (fun hc1 => ?_)
       · try simp only [cnd] at hc1
         refine WX.skip ?_
         refine Fin.then_normal ?_
         refine WX.seq ?_
         refine WX.block ?_
         refine WX.seq ?_
         have hi64 : i < 64 := by omega
         have hb := hS.file i hi64
         obtain ⟨ax, cx, hvx, hrx0, hnx, hBx⟩ := hM.file i hi64
         have hrx : Rowy B 1 ax (nth M.B i).length ((nth M.B i).map B8) := hrx0.inc fun g hg => hg.sub hiB
         have hv : vs[i]? = some (.slice ax (nth M.B i).length cx) := by rw [← hvx]; exact nth_eq (by rw [hM.lenV]; exact hi64)
         have hxl := hM.len hi64
         have hxs : Short (nth M.B i) := by unfold Short; omega
         have hrd : readD D (i : Nat) = ([], 23) := by unfold readD; rw [if_neg (by omega)]; rw [if_pos hoff]
         refine WX.region rfl ?_
         refine WXL.move Met.none rfl ?_
         refine WXL.move Met.none rfl ?_
         refine WXL.cl (O1 := _) Met.none rfl (fnOk_of Try.func17 (by decide +kernel)) rfl (fun _ h => h) (diskRead_ok _ d bm D mx (i : Nat) hD (fun g hg => hg.sub (by intro Q; have := hiB Q; simp only [List.countP_cons]; omega))) (fun v O' hp => ?_)
         obtain ⟨a3, c3, G3, rfl, hG3, rfl⟩ := hp
         rw [hrd] at hG3 ⊢
         dsimp only at hG3 ⊢
         refine WXL.move Met.none rfl ?_
         refine WXL.extract Met.none rfl rfl ?_
         refine WXL.extract Met.none rfl rfl ?_
         refine WXL.assign Met.none rfl ?_
         refine WXL.assign Met.none rfl ?_
         refine WXL.nil ?_
         refine Fin.then_normal ?_
         refine WX.seq ?_
         refine WX.seq ?_
         refine WX.re (O' := rdO r rb rf M vs (G3 ++ (dkO d bm D mx B))) ?_
         refine WX.region rfl ?_
         refine WXL.move Met.none rfl ?_
         refine WXL.nilCheck Met.none rfl ?_
         first | refine WXL.fieldAddr Met.none rfl Try.underlying58 rfl sz4 rfl ?_ | refine WXL.faS Met.none rfl Try.underlying58 rfl sz4 ?_
         first | refine WXL.ld Met.none rfl agg4 ?_ | refine WXL.ldS Met.none rfl agg4 ?_
         refine WXL.move Met.none rfl ?_
         refine WXL.split (d := 44) rfl (fun hg44 => ?_) (fun hg44 => ?_)
         · try simp only [cnd] at hg44
           refine WXL.move (Met.some rfl rfl rfl) rfl ?_
           refine WXL.bin (Met.some rfl rfl rfl) rfl rfl rfl ?_
           refine WXL.move (Met.some rfl rfl rfl) rfl ?_
           refine WXL.split (d := 47) rfl (fun hg47 => ?_) (fun hg47 => ?_)
           · try simp only [cnd] at hg47
             exact (by simp at hg47)
           · try simp only [cnd] at hg47
             refine WXL.move (Met.some rfl rfl rfl) rfl ?_
             refine WXL.len (Met.some rfl rfl rfl) rfl Try.underlying27 ?_
             refine WXL.bin (Met.some rfl rfl rfl) rfl rfl rfl ?_
             refine WXL.pick_f (Met.some rfl rfl rfl) rfl rfl ?_
             refine WXL.pick_t Met.none rfl rfl ?_
             refine WXL.nil ?_
             refine Fin.then_normal ?_
             refine WX.cond rfl (fun hc2 => ?_) (fun hc2 => ?_)
             · try simp only [cnd] at hc2
               exact (by simp at hc2)
             · try simp only [cnd] at hc2
               refine WX.skip ?_
               refine Fin.then_normal ?_
               refine WX.seq ?_
               refine WX.region rfl ?_
               refine WXL.move Met.none rfl ?_
               refine WXL.nilCheck Met.none rfl ?_
               first | refine WXL.fieldAddr Met.none rfl Try.underlying58 rfl sz4 rfl ?_ | refine WXL.faS Met.none rfl Try.underlying58 rfl sz4 ?_
               first | refine WXL.ld Met.none rfl agg4 ?_ | refine WXL.ldS Met.none rfl agg4 ?_
               refine WXL.not Met.none rfl ?_
               refine WXL.move Met.none rfl ?_
               refine WXL.split (d := 58) rfl (fun hg58 => ?_) (fun hg58 => ?_)
               · try simp only [cnd] at hg58
                 exact absurd hmo (by simpa using hg58)
               · try simp only [cnd] at hg58
                 refine WXL.miss (j := 5) (d := 58) rfl rfl rfl ?_
                 refine WXL.miss (j := 5) (d := 58) rfl rfl rfl ?_
                 refine WXL.miss (j := 5) (d := 58) rfl rfl rfl ?_
                 refine WXL.missU (j := 8) (e := 61) rfl rfl ?_
                 refine WXL.missU (j := 8) (e := 61) rfl rfl ?_
                 refine WXL.missU (j := 8) (e := 61) rfl rfl ?_
                 refine WXL.missU (j := 8) (e := 61) rfl rfl ?_
                 refine WXL.missU (j := 8) (e := 61) rfl rfl ?_
                 refine WXL.missU (j := 8) (e := 61) rfl rfl ?_
                 refine WXL.missU (j := 8) (e := 61) rfl rfl ?_
                 refine WXL.missU (j := 8) (e := 61) rfl rfl ?_
                 refine WXL.missU (j := 8) (e := 61) rfl rfl ?_
                 refine WXL.missU (j := 8) (e := 61) rfl rfl ?_
                 refine WXL.miss (j := 5) (d := 58) rfl rfl rfl ?_
                 refine WXL.pick_f Met.none rfl rfl ?_
                 refine WXL.nil ?_
                 refine Fin.then_normal ?_
                 refine WX.cond rfl (fun hc3 => nomatch hc3) (fun hc3 => ?_)
                 refine WX.skip ?_
                 refine Fin.block_normal ?_
                 refine Fin.then_normal ?_
                 refine WX.re (O' := dkO d bm D mx (rdO r rb rf M vs B)) ?_
                 refine WX.region rfl ?_
                 refine WXL.move Met.none rfl ?_
                 refine WXL.bin Met.none rfl rfl bvA ?_
                 refine WXL.assign Met.none rfl ?_
                 refine WXL.nil ?_
                 exact Fin.loop_next (i + 1) (by omega) (by omega) (fun s hs => hs.tl [] 0)
         · try simp only [cnd] at hg44
           exact absurd hmo (by simpa using hg44)
       · try simp only [cnd] at hc1
         refine WX.exit ?_
         refine Fin.then_exit ?_
         refine Fin.loop_exit ?_
         refine Fin.block_hit rfl ?_
         refine Fin.then_normal ?_
         refine WX.seq ?_
         refine WX.region rfl ?_
         refine WXL.assign Met.none rfl ?_
         refine WXL.nil ?_
         refine Fin.then_normal ?_
         refine WX.ret ?_
         exact Fin.result (O' := dkO d bm D mx (rdO r rb rf M vs ((G2 ++ G1) ++ R))) (.inr rfl) rfl rfl (fun g hg => by rw [hB] at hg; exact hg.sub (by intro Q; simp only [List.countP_append, List.countP_cons]; omega)) ⟨rfl, G2 ++ G1, rfl⟩
theorem same_ok (R : Objs) {R0 : Objs} (d bm : Nat) (D : Dk) (mx : MapX) (r rb rf : Nat) (M : Rd) (vs : List Value) (hD : DkI R0 D mx) (hM : RdI R0 M vs) (hS : Sim D M) (hi : ∀ Q : Nat × Ent → Bool, R0.countP Q ≤ R.countP Q) :
  Spec Try.prog false 26 #[Ptr d 0, Ptr r 0] (dkO d bm D mx (rdO r rb rf M vs R)) fun v O' => ∃ up, v = .bool up ∧ up = true ∧ ∃ N, O' = dkO d bm D mx (rdO r rb rf M vs (N ++ R)) := by
 rcases Bool.eq_false_or_eq_true D.off with hoff | hoff
 · exact (same_off R d bm D mx r rb rf M vs hD hM hS hi hoff).mono fun v O' ⟨h1, h2⟩ => ⟨true, h1, rfl, h2⟩
 · exact (same_on R d bm D mx r rb rf M vs hD hM hS hi hoff).mono fun v O' ⟨h1, h2⟩ => ⟨true, h1, rfl, h2⟩
end Go.Proofs.Ytahaplbdhgfobaa.Eng
set_option linter.unusedVariables false
set_option linter.unusedSimpArgs false
set_option maxRecDepth 8000
namespace Go.Proofs.Ytahaplbdhgfobaa.Eng
def rotR (M : Rd) (n bit : Int) : Int × Rd :=
 if ¬ (0 ≤ n ∧ n < 64) ∨ bit < 0 ∨ bit.toNat / 8 ≥ (nth M.B n.toNat).length then (1, M)
 else (0, { M with B := M.B.set n.toNat ((nth M.B n.toNat).set (bit.toNat / 8) (flipB (nth (nth M.B n.toNat) (bit.toNat / 8)) (7 - bit.toNat % 8))) })
theorem sim_rot {R : Objs} {D : Dk} {M : Rd} {mx : MapX} (h : Sim D M) (hD : DkI R D mx) (n bit : Int) : (rotR M n bit).1 = (rotD D n bit).1 ∧ Sim (rotD D n bit).2 (rotR M n bit).2 := by
 unfold rotR rotD
 by_cases h0 : ¬ (0 ≤ n ∧ n < 64)
 · rw [if_pos (.inl h0), if_pos (.inl h0)]; exact ⟨rfl, h⟩
 obtain ⟨k, rfl⟩ : ∃ k : Nat, n = (k : Int) := ⟨n.toNat, by omega⟩
 have hk : k < 64 := by omega
 have hf := h.file k hk
 simp only [Int.toNat_natCast]
 rw [hf]
 simp only
 by_cases h1 : ¬ (0 ≤ ((k : Nat) : Int) ∧ ((k : Nat) : Int) < 64) ∨ bit < 0 ∨ bit.toNat / 8 ≥ (nth M.B k).length
 · rw [if_pos h1, if_pos h1]; exact ⟨rfl, h⟩
 rw [if_neg h1, if_neg h1]
 refine ⟨rfl, h.room, h.off, h.pl, by simp only [List.length_set]; exact h.lenB, h.lenF, fun i hi => ?_⟩
 show getF (setF D.fs (k : Nat) _) (i : Nat) = _
 rw [get_set' hD.di.nd]
 simp only
 rw [nth_setE (by rw [h.lenB]; exact hk)]
 by_cases hik : i = k
 · subst hik
   rw [if_pos rfl, if_pos rfl, if_neg ?_]
   intro q
   have := congrArg List.length q
   rw [List.length_set, List.length_nil] at this
   omega
 · rw [if_neg (by omega), if_neg hik, h.file i hi]
theorem rrot_ok (R : Objs) {R0 : Objs} (r rb rf : Nat) (M : Rd) (vs : List Value) (file bit : Int) (h : RdI R0 M vs) (hi : ∀ g, Sat g R → Sat g R0) (hb64 : In64 bit) :
  Spec Try.prog false 35 #[Ptr r 0, I file, I bit] (rdO r rb rf M vs R) fun v O' => ∃ vs' N, v = I (rotR M file bit).1 ∧ O' = rdO r rb rf (rotR M file bit).2 vs' (N ++ R) ∧ RdI (N ++ R0) (rotR M file bit).2 vs' := by
 have hfile : file.toNat < 64 → ∃ fa fc, vs[file.toNat]? = some (.slice fa (nth M.B file.toNat).length fc) ∧ Rowy R0 1 fa (nth M.B file.toNat).length ((nth M.B file.toNat).map B8) ∧ (fa = none → fc = 0) ∧ Bytes (nth M.B file.toNat) := fun hk => by
  obtain ⟨fa, fc, hfv, hrow0, hnil, hB⟩ := h.file _ hk
  exact ⟨fa, fc, by rw [← hfv]; exact nth_eq (by rw [h.lenV]; exact hk), hrow0, hnil, hB⟩
 have hbq : 0 ≤ bit → bit.tdiv 8 = ((bit.toNat / 8 : Nat) : Int) := fun h => by rw [Int.tdiv_eq_ediv_of_nonneg h]; omega
 have hbm : 0 ≤ bit → bit.tmod 8 = ((bit.toNat % 8 : Nat) : Int) := fun h => by rw [Int.tmod_eq_emod_of_nonneg h]; omega
 have hbw : IntKind.wrap .i64 (bit.tdiv 8) = bit.tdiv 8 := by
  unfold In64 at hb64
  have h1 : bit.tdiv 8 ≤ 9223372036854775807 ∧ -9223372036854775808 ≤ bit.tdiv 8 := by
   rcases Int.lt_or_le bit 0 with h | h
   · have h2 : (-bit).tdiv 8 = -(bit.tdiv 8) := Int.neg_tdiv _ _
     rw [Int.tdiv_eq_ediv_of_nonneg (by omega)] at h2
     omega
   · rw [hbq h]; omega
  exact wrap_i64 (by omega) (by omega)
 refine Spec.enter (args := [_, _, _]) (m := 62) Try.func35 rfl rfl (by decide +kernel) fun h0 => ?_
 refine WX.seq ?_
 refine WX.region rfl ?_
 refine WXL.assign Met.none rfl ?_
 refine WXL.nil ?_
 refine Fin.then_normal ?_
 refine WX.seq ?_
 refine WX.seq ?_
 refine WX.region rfl ?_
 refine WXL.move Met.none rfl ?_
 refine WXL.bin Met.none rfl rfl rfl ?_
 refine WXL.move Met.none rfl ?_
 refine WXL.split (d := 10) rfl (fun hg10 => ?_) (fun hg10 => ?_)
 · try simp only [cnd] at hg10
   refine WXL.miss (j := 2) (d := 10) rfl rfl rfl ?_
   refine WXL.miss (j := 2) (d := 10) rfl rfl rfl ?_
   refine WXL.pick_t Met.none rfl rfl ?_
   refine WXL.move Met.none rfl ?_
   refine WXL.miss (j := 6) (d := 14) rfl rfl rfl ?_
   refine WXL.miss (j := 6) (d := 14) rfl rfl rfl ?_
   refine WXL.pick_t Met.none rfl rfl ?_
   refine WXL.move Met.none rfl ?_
   refine WXL.miss (j := 10) (d := 18) rfl rfl rfl ?_
   refine WXL.miss (j := 10) (d := 18) rfl rfl rfl ?_
   refine WXL.miss (j := 10) (d := 18) rfl rfl rfl ?_
   refine WXL.miss (j := 10) (d := 18) rfl rfl rfl ?_
   refine WXL.miss (j := 10) (d := 18) rfl rfl rfl ?_
   refine WXL.miss (j := 10) (d := 18) rfl rfl rfl ?_
   refine WXL.miss (j := 10) (d := 18) rfl rfl rfl ?_
   refine WXL.miss (j := 10) (d := 18) rfl rfl rfl ?_
   refine WXL.miss (j := 10) (d := 18) rfl rfl rfl ?_
   refine WXL.miss (j := 10) (d := 18) rfl rfl rfl ?_
   refine WXL.miss (j := 10) (d := 18) rfl rfl rfl ?_
   refine WXL.pick_t Met.none rfl rfl ?_
   refine WXL.nil ?_
   refine Fin.then_normal ?_
   refine WX.cond rfl (fun hc0 => ?_) (fun hc0 => nomatch hc0)
   refine WX.seq ?_
   refine WX.region rfl ?_
   refine WXL.assign Met.none rfl ?_
   refine WXL.nil ?_
   refine Fin.then_normal ?_
   refine WX.ret ?_
   refine Fin.then_ret ?_
   first
   | exact Fin.result (O' := rdO r rb rf M vs ([] ++ R)) (.inr rfl) rfl rfl drop_ (by unfold rotR; rw [if_pos (by omega)]; exact ⟨vs, [], rfl, rfl, h⟩)
   | exact Fin.result (O' := rdO r rb rf M vs ([] ++ R)) (.inr rfl) rfl rfl drop_ (by unfold rotR; rw [if_pos (by rcases Int.lt_or_le bit 0 with h | h; exact .inr (.inl h); have := hbq h; omega)]; exact ⟨vs, [], rfl, rfl, h⟩)
   | exact Fin.result (O' := rdO r rb rf ⟨M.room, M.B.set file.toNat x2, M.F, M.off, M.plan⟩ (vs.set file.toNat (.slice (some ⟨b39, 0, none⟩) (0 + (nth M.B file.toNat).length) c39)) ([(b39, ⟨1, false, x2.map B8⟩)] ++ R)) (.inr rfl) rfl rfl (by rw [hx2]; exact sub_) (by unfold rotR; rw [if_neg (by omega), ← hk8, ← hx2]; exact ⟨_, _, rfl, rfl, hI2⟩)
 · try simp only [cnd] at hg10
   refine WXL.move (Met.some rfl rfl rfl) rfl ?_
   refine WXL.bin (Met.some rfl rfl rfl) rfl rfl rfl ?_
   refine WXL.pick_f Met.none rfl rfl ?_
   refine WXL.move Met.none rfl ?_
   refine WXL.split (d := 14) rfl (fun hg14 => ?_) (fun hg14 => ?_)
   · try simp only [cnd] at hg14
     refine WXL.miss (j := 6) (d := 14) rfl rfl rfl ?_
     refine WXL.miss (j := 6) (d := 14) rfl rfl rfl ?_
     refine WXL.pick_t Met.none rfl rfl ?_
     refine WXL.move Met.none rfl ?_
     refine WXL.miss (j := 10) (d := 18) rfl rfl rfl ?_
     refine WXL.miss (j := 10) (d := 18) rfl rfl rfl ?_
     refine WXL.miss (j := 10) (d := 18) rfl rfl rfl ?_
     refine WXL.miss (j := 10) (d := 18) rfl rfl rfl ?_
     refine WXL.miss (j := 10) (d := 18) rfl rfl rfl ?_
     refine WXL.miss (j := 10) (d := 18) rfl rfl rfl ?_
     refine WXL.miss (j := 10) (d := 18) rfl rfl rfl ?_
     refine WXL.miss (j := 10) (d := 18) rfl rfl rfl ?_
     refine WXL.miss (j := 10) (d := 18) rfl rfl rfl ?_
     refine WXL.miss (j := 10) (d := 18) rfl rfl rfl ?_
     refine WXL.miss (j := 10) (d := 18) rfl rfl rfl ?_
     refine WXL.pick_t Met.none rfl rfl ?_
     refine WXL.nil ?_
     refine Fin.then_normal ?_
     refine WX.cond rfl (fun hc0 => ?_) (fun hc0 => nomatch hc0)
     refine WX.seq ?_
     refine WX.region rfl ?_
     refine WXL.assign Met.none rfl ?_
     refine WXL.nil ?_
     refine Fin.then_normal ?_
     refine WX.ret ?_
     refine Fin.then_ret ?_
     first
     | exact Fin.result (O' := rdO r rb rf M vs ([] ++ R)) (.inr rfl) rfl rfl drop_ (by unfold rotR; rw [if_pos (by omega)]; exact ⟨vs, [], rfl, rfl, h⟩)
     | exact Fin.result (O' := rdO r rb rf M vs ([] ++ R)) (.inr rfl) rfl rfl drop_ (by unfold rotR; rw [if_pos (by rcases Int.lt_or_le bit 0 with h | h; exact .inr (.inl h); have := hbq h; omega)]; exact ⟨vs, [], rfl, rfl, h⟩)
     | exact Fin.result (O' := rdO r rb rf ⟨M.room, M.B.set file.toNat x2, M.F, M.off, M.plan⟩ (vs.set file.toNat (.slice (some ⟨b39, 0, none⟩) (0 + (nth M.B file.toNat).length) c39)) ([(b39, ⟨1, false, x2.map B8⟩)] ++ R)) (.inr rfl) rfl rfl (by rw [hx2]; exact sub_) (by unfold rotR; rw [if_neg (by omega), ← hk8, ← hx2]; exact ⟨_, _, rfl, rfl, hI2⟩)
   · try simp only [cnd] at hg14
     refine WXL.move (Met.some rfl rfl rfl) rfl ?_
     refine WXL.bin (Met.some rfl rfl rfl) rfl rfl rfl ?_
     refine WXL.pick_f Met.none rfl rfl ?_
     refine WXL.move Met.none rfl ?_
     refine WXL.split (d := 18) rfl (fun hg18 => ?_) (fun hg18 => ?_)
     · try simp only [cnd] at hg18
       refine WXL.miss (j := 10) (d := 18) rfl rfl rfl ?_
       refine WXL.miss (j := 10) (d := 18) rfl rfl rfl ?_
       refine WXL.miss (j := 10) (d := 18) rfl rfl rfl ?_
       refine WXL.miss (j := 10) (d := 18) rfl rfl rfl ?_
       refine WXL.miss (j := 10) (d := 18) rfl rfl rfl ?_
       refine WXL.miss (j := 10) (d := 18) rfl rfl rfl ?_
       refine WXL.miss (j := 10) (d := 18) rfl rfl rfl ?_
       refine WXL.miss (j := 10) (d := 18) rfl rfl rfl ?_
       refine WXL.miss (j := 10) (d := 18) rfl rfl rfl ?_
       refine WXL.miss (j := 10) (d := 18) rfl rfl rfl ?_
       refine WXL.miss (j := 10) (d := 18) rfl rfl rfl ?_
       refine WXL.pick_t Met.none rfl rfl ?_
       refine WXL.nil ?_
       refine Fin.then_normal ?_
       refine WX.cond rfl (fun hc0 => ?_) (fun hc0 => nomatch hc0)
       refine WX.seq ?_
       refine WX.region rfl ?_
       refine WXL.assign Met.none rfl ?_
       refine WXL.nil ?_
       refine Fin.then_normal ?_
       refine WX.ret ?_
       refine Fin.then_ret ?_
       first
       | exact Fin.result (O' := rdO r rb rf M vs ([] ++ R)) (.inr rfl) rfl rfl drop_ (by unfold rotR; rw [if_pos (by omega)]; exact ⟨vs, [], rfl, rfl, h⟩)
       | exact Fin.result (O' := rdO r rb rf M vs ([] ++ R)) (.inr rfl) rfl rfl drop_ (by unfold rotR; rw [if_pos (by rcases Int.lt_or_le bit 0 with h | h; exact .inr (.inl h); have := hbq h; omega)]; exact ⟨vs, [], rfl, rfl, h⟩)
       | exact Fin.result (O' := rdO r rb rf ⟨M.room, M.B.set file.toNat x2, M.F, M.off, M.plan⟩ (vs.set file.toNat (.slice (some ⟨b39, 0, none⟩) (0 + (nth M.B file.toNat).length) c39)) ([(b39, ⟨1, false, x2.map B8⟩)] ++ R)) (.inr rfl) rfl rfl (by rw [hx2]; exact sub_) (by unfold rotR; rw [if_neg (by omega), ← hk8, ← hx2]; exact ⟨_, _, rfl, rfl, hI2⟩)
     · try simp only [cnd] at hg18
       refine WXL.move (Met.some rfl rfl rfl) rfl ?_
       refine WXL.qu (Met.some rfl rfl rfl) rfl rfl ?_ (hr := hbw)
       refine WXL.move (Met.some rfl rfl rfl) rfl ?_
       refine WXL.nilCheck (Met.some rfl rfl rfl) rfl ?_
       first | refine WXL.fieldAddr (Met.some rfl rfl rfl) rfl Try.underlying58 rfl sz22 rfl ?_ | refine WXL.faS (Met.some rfl rfl rfl) rfl Try.underlying58 rfl sz22 ?_
       first | refine WXL.ld (Met.some rfl rfl rfl) rfl agg22 ?_ | refine WXL.ldS (Met.some rfl rfl rfl) rfl agg22 ?_
       refine WXL.move (Met.some rfl rfl rfl) rfl ?_
       have hk : file.toNat < 64 := by omega
       obtain ⟨fa, fc, hv, hrow0, hnil, hB⟩ := hfile hk
       have hrow := hrow0.inc hi
       have hfl := h.len hk
       first | refine WXL.ix (Met.some rfl rfl rfl) rfl rfl elem22 sz27 ?_ | refine WXL.ixS (Met.some rfl rfl rfl) rfl rfl elem22 sz27 ?_
       first | refine WXL.ld (Met.some rfl rfl rfl) rfl agg27 ?_ (hv := hv) | refine WXL.ldS (Met.some rfl rfl rfl) rfl agg27 ?_ (hv := hv)
       refine WXL.len (Met.some rfl rfl rfl) rfl Try.underlying27 ?_
       refine WXL.bin (Met.some rfl rfl rfl) rfl rfl rfl ?_
       refine WXL.pick_f Met.none rfl rfl ?_
       refine WXL.nil ?_
       refine Fin.then_normal ?_
       refine WX.cond rfl (fun hc0 => ?_) (fun hc0 => ?_)
       · try simp only [cnd] at hc0
         refine WX.seq ?_
         refine WX.region rfl ?_
         refine WXL.assign Met.none rfl ?_
         refine WXL.nil ?_
         refine Fin.then_normal ?_
         refine WX.ret ?_
         refine Fin.then_ret ?_
         first
         | exact Fin.result (O' := rdO r rb rf M vs ([] ++ R)) (.inr rfl) rfl rfl drop_ (by unfold rotR; rw [if_pos (by omega)]; exact ⟨vs, [], rfl, rfl, h⟩)
         | exact Fin.result (O' := rdO r rb rf M vs ([] ++ R)) (.inr rfl) rfl rfl drop_ (by unfold rotR; rw [if_pos (by rcases Int.lt_or_le bit 0 with h | h; exact .inr (.inl h); have := hbq h; omega)]; exact ⟨vs, [], rfl, rfl, h⟩)
         | exact Fin.result (O' := rdO r rb rf ⟨M.room, M.B.set file.toNat x2, M.F, M.off, M.plan⟩ (vs.set file.toNat (.slice (some ⟨b39, 0, none⟩) (0 + (nth M.B file.toNat).length) c39)) ([(b39, ⟨1, false, x2.map B8⟩)] ++ R)) (.inr rfl) rfl rfl (by rw [hx2]; exact sub_) (by unfold rotR; rw [if_neg (by omega), ← hk8, ← hx2]; exact ⟨_, _, rfl, rfl, hI2⟩)
       · try simp only [cnd] at hc0
         refine WX.skip ?_
         refine Fin.then_normal ?_
         refine WX.seq ?_
         refine WX.region rfl ?_
         refine WXL.assign Met.none rfl ?_
         refine WXL.nil ?_
         refine Fin.then_normal ?_
         refine WX.seq ?_
         have hb0 : 0 ≤ bit := by omega
         have hq := hbq hb0
         obtain ⟨k, hk8⟩ : ∃ k, k = bit.toNat / 8 := ⟨_, rfl⟩
         rw [← hk8] at hq
         have hkl : k < (nth M.B file.toNat).length := by omega
         refine WX.region rfl ?_
         refine WXL.move Met.none rfl ?_
         refine WXL.move Met.none rfl ?_
         refine WXL.nilCheck Met.none rfl ?_
         first | refine WXL.fieldAddr Met.none rfl Try.underlying58 rfl sz22 rfl ?_ | refine WXL.faS Met.none rfl Try.underlying58 rfl sz22 ?_
         first | refine WXL.ld Met.none rfl agg22 ?_ | refine WXL.ldS Met.none rfl agg22 ?_
         refine WXL.move Met.none rfl ?_
         first | refine WXL.ix Met.none rfl rfl elem22 sz27 ?_ | refine WXL.ixS Met.none rfl rfl elem22 sz27 ?_
         first | refine WXL.ld Met.none rfl agg27 ?_ (hv := hv) | refine WXL.ldS Met.none rfl agg27 ?_ (hv := hv)
         refine WXL.apG ([]) Met.none rfl rfl isrow27 elem27 sz5 by5 zero5 (Src.cons (Src.cons (Src.cons (hrow.src hnil)))) (fun a39 c39 G39 hG39 => ?_) (hm := (by rw [List.length_map]; omega)) (hg := (Grow.nil (sz := 1)))
         refine WXL.assign Met.none rfl ?_
         refine WXL.nil ?_
         refine Fin.then_normal ?_
         refine WX.seq ?_
         rw [List.nil_append] at hG39
         obtain ⟨b39, rfl, rfl, hc39⟩ : ∃ b39, a39 = some ⟨b39, 0, none⟩ ∧ G39 = [(b39, ⟨1, false, (nth M.B file.toNat).map B8⟩)] ∧ ((nth M.B file.toNat).map B8).length = (0 + (nth M.B file.toNat).length) * 1 := by
          rcases hG39 with ⟨_, h0, _⟩ | h
          · omega
          · exact h
         refine WX.re (O' := (b39, ⟨1, false, (nth M.B file.toNat).map B8⟩) :: rdO r rb rf M vs R) ?_
         refine WX.region rfl ?_
         refine WXL.move Met.none rfl ?_
         refine WXL.move Met.none rfl ?_
         refine WXL.qu Met.none rfl rfl ?_ (hr := hbw)
         refine WXL.move Met.none rfl ?_
         refine WXL.move Met.none rfl ?_
         refine WXL.qu Met.none rfl rfl ?_ (hr := hbw)
         rw [hq]
         first | refine WXL.ix Met.none rfl rfl elem27 sz5 ?_ | refine WXL.ixS Met.none rfl rfl elem27 sz5 ?_
         first | refine WXL.ld Met.none rfl agg5 ?_ | refine WXL.ldS Met.none rfl agg5 ?_
         refine WXL.move Met.none rfl ?_
         refine WXL.rem Met.none rfl rfl (by omega) ?_
         rw [hbm hb0]
         refine WXL.bin Met.none rfl rfl bvS ?_
         rw [show (7 : Int) - ((bit.toNat % 8 : Nat) : Int) = ((7 - bit.toNat % 8 : Nat) : Int) from by omega]
         refine WXL.conv Met.none rfl Try.underlying3 Try.underlying77 (wrap_u64 (by omega) (by omega)) ?_
         refine WXL.shl Met.none rfl rfl (by omega) ?_
         refine WXL.bin Met.none rfl rfl (show _ = some (B8 (flipB (nth (nth M.B file.toNat) k) (7 - bit.toNat % 8))) from rfl) ?_
         first | refine WXL.ix Met.none rfl rfl elem27 sz5 ?_ | refine WXL.ixS Met.none rfl rfl elem27 sz5 ?_
         refine WXL.st (vs := [_]) (j := 0) Met.none rfl rfl rfl sz5 ?_ (hj := rfl) (hl := (by show k + 1 ≤ ((nth M.B file.toNat).map B8).length; rw [List.length_map]; omega))
         refine WXL.nil ?_
         refine Fin.then_normal ?_
         refine WX.seq ?_
         obtain ⟨x2, hx2⟩ : ∃ x2, x2 = (nth M.B file.toNat).set k (flipB (nth (nth M.B file.toNat) k) (7 - bit.toNat % 8)) := ⟨_, rfl⟩
         have hl2 : x2.length = (nth M.B file.toNat).length := by rw [hx2]; exact List.length_set
         have hB2 : Bytes x2 := by
          rw [hx2]
          intro y hy
          rcases List.mem_or_eq_of_mem_set hy with p | p
          · exact hB y p
          · rw [p]; exact flipB_range _ _
         have hvn : RowV ([(b39, ⟨1, false, x2.map B8⟩)] ++ R0) (.slice (some ⟨b39, 0, none⟩) (0 + (nth M.B file.toNat).length) c39) x2 := ⟨_, c39, by rw [hl2, Nat.zero_add], .inr ⟨b39, 0, ⟨1, false, x2.map B8⟩, rfl, fun g hg => hg.mem (by simp), rfl, by show 0 + x2.length * 1 ≤ (x2.map B8).length; rw [List.length_map]; omega, by rw [List.drop_zero, Nat.mul_one]; exact List.take_of_length_le (by rw [List.length_map]; omega)⟩, (fun q => by cases q), hB2⟩
         have hI2 : RdI ([(b39, ⟨1, false, x2.map B8⟩)] ++ R0) ⟨M.room, M.B.set file.toNat x2, M.F, M.off, M.plan⟩ (vs.set file.toNat (.slice (some ⟨b39, 0, none⟩) (0 + (nth M.B file.toNat).length) c39)) := (h.app (N := [(b39, ⟨1, false, x2.map B8⟩)])).set hk hvn (by unfold lenR; rw [hl2]; have := h.used; omega) h.lenF h.plan (fun n hn => by
          have h1 := h.firm n hn
          rw [nth_setE (by rw [h.lenB]; exact hk)]
          split
          · rename_i q; subst q; rw [hl2]; exact h1
          · exact h1)
         refine WX.region rfl ?_
         refine WXL.move Met.none rfl ?_
         refine WXL.nilCheck Met.none rfl ?_
         first | refine WXL.fieldAddr Met.none rfl Try.underlying58 rfl sz22 rfl ?_ | refine WXL.faS Met.none rfl Try.underlying58 rfl sz22 ?_
         first | refine WXL.ld Met.none rfl agg22 ?_ | refine WXL.ldS Met.none rfl agg22 ?_
         refine WXL.move Met.none rfl ?_
         refine WXL.move Met.none rfl ?_
         first | refine WXL.ix Met.none rfl rfl elem22 sz27 ?_ | refine WXL.ixS Met.none rfl rfl elem22 sz27 ?_
         refine WXL.st (vs := [_]) (j := 2) Met.none rfl rfl rfl sz27 ?_ (hj := rfl) (hl := (by show file.toNat + 1 ≤ vs.length; rw [h.lenV]; omega)) (hc := (splice_one (by rw [h.lenV]; exact hk)))
         refine WXL.nil ?_
         refine Fin.then_normal ?_
         refine WX.seq ?_
         refine WX.region rfl ?_
         refine WXL.assign Met.none rfl ?_
         refine WXL.nil ?_
         refine Fin.then_normal ?_
         refine WX.ret ?_
         first
         | exact Fin.result (O' := rdO r rb rf M vs ([] ++ R)) (.inr rfl) rfl rfl drop_ (by unfold rotR; rw [if_pos (by omega)]; exact ⟨vs, [], rfl, rfl, h⟩)
         | exact Fin.result (O' := rdO r rb rf M vs ([] ++ R)) (.inr rfl) rfl rfl drop_ (by unfold rotR; rw [if_pos (by rcases Int.lt_or_le bit 0 with h | h; exact .inr (.inl h); have := hbq h; omega)]; exact ⟨vs, [], rfl, rfl, h⟩)
         | exact Fin.result (O' := rdO r rb rf ⟨M.room, M.B.set file.toNat x2, M.F, M.off, M.plan⟩ (vs.set file.toNat (.slice (some ⟨b39, 0, none⟩) (0 + (nth M.B file.toNat).length) c39)) ([(b39, ⟨1, false, x2.map B8⟩)] ++ R)) (.inr rfl) rfl rfl (by rw [hx2]; exact sub_) (by unfold rotR; rw [if_neg (by omega), ← hk8, ← hx2]; exact ⟨_, _, rfl, rfl, hI2⟩)
end Go.Proofs.Ytahaplbdhgfobaa.Eng
set_option linter.unusedVariables false
set_option linter.unusedSimpArgs false
namespace Go.Proofs.Ytahaplbdhgfobaa.Eng
def xorU (a b : Int) : Int := IntKind.wrap .u64 ((BitVec.ofInt 64 a) ^^^ (BitVec.ofInt 64 b)).toNat
def mixU (s w : Int) : Int := xorU (IntKind.wrap .u64 (xorU s w * 11400714819323198485)) ((IntKind.wrap .u64 (xorU s w * 11400714819323198485)).fdiv 4294967296)
theorem mix_ok (O : Objs) (s w : Int) : Spec Try.prog true 59 #[U s, U w] O fun v O' => v = U (mixU s w) ∧ O' = O := by
 refine Spec.enter (args := [_, _]) (m := 14) Try.func59 rfl rfl (by decide +kernel) fun h0 => ?_
 refine WX.seq ?_
 refine WX.region rfl ?_
 refine WXL.assign Met.none rfl ?_
 refine WXL.nil ?_
 refine Fin.then_normal ?_
 refine WX.seq ?_
 refine WX.region rfl ?_
 refine WXL.move Met.none rfl ?_
 refine WXL.move Met.none rfl ?_
 refine WXL.bin Met.none rfl rfl rfl ?_
 refine WXL.bin Met.none rfl rfl bvM ?_
 refine WXL.assign Met.none rfl ?_
 refine WXL.nil ?_
 refine Fin.then_normal ?_
 refine WX.seq ?_
 refine WX.region rfl ?_
 refine WXL.move Met.none rfl ?_
 refine WXL.move Met.none rfl ?_
 refine WXL.shr Met.none rfl rfl (by omega) ?_
 refine WXL.bin Met.none rfl rfl rfl ?_
 refine WXL.assign Met.none rfl ?_
 refine WXL.nil ?_
 refine Fin.then_normal ?_
 refine WX.ret ?_
 exact Fin.result (O' := O) (.inr rfl) rfl rfl drop_ ⟨rfl, rfl⟩
theorem wrapU_range (n : Int) : InU (IntKind.wrap .u64 n) := by
 unfold IntKind.wrap InU
 have e1 : (2 : Int) ^ IntKind.bits .u64 = 18446744073709551616 := rfl
 have e3 : IntKind.signed .u64 = false := rfl
 simp only [e1, e3, Bool.false_and, Bool.false_eq_true, if_false]
 omega
theorem wrap_mod (n : Int) : IntKind.wrap .u64 n = n % 18446744073709551616 := by
 unfold IntKind.wrap
 have e1 : (2 : Int) ^ IntKind.bits .u64 = 18446744073709551616 := rfl
 have e3 : IntKind.signed .u64 = false := rfl
 simp only [e1, e3, Bool.false_and, Bool.false_eq_true, if_false]
end Go.Proofs.Ytahaplbdhgfobaa.Eng
set_option linter.unusedVariables false
set_option linter.unusedSimpArgs false
namespace Go.Proofs.Ytahaplbdhgfobaa.Eng
def leW : List Int → Int
 | [] => 0
 | b :: l => b + 256 * leW l
theorem leW_range : ∀ {l : List Int}, Bytes l → 0 ≤ leW l ∧ leW l < 256 ^ l.length
 | [], _ => by simp [leW]
 | b :: l, h => by
  obtain ⟨h1, h2⟩ := leW_range (l := l) fun x hx => h x (List.mem_cons_of_mem _ hx)
  obtain ⟨h3, h4⟩ := h b (List.mem_cons_self ..)
  rw [List.length_cons, Int.pow_succ]
  unfold leW
  omega
theorem leW_snoc : ∀ (l : List Int) (b : Int), leW (l ++ [b]) = leW l + b * 256 ^ l.length
 | [], b => by simp [leW]
 | x :: l, b => by
  show x + 256 * leW (l ++ [b]) = x + 256 * leW l + b * 256 ^ (l.length + 1)
  rw [leW_snoc l b, Int.pow_succ, Int.mul_add, ← Int.add_assoc]
  congr 1
  rw [Int.mul_comm (256 ^ l.length) 256, ← Int.mul_assoc, ← Int.mul_assoc, Int.mul_comm 256 b]
def wordsOf (l : List Int) : List Int := if h : l = [] then [] else leW (l.take 8) :: wordsOf (l.drop 8)
termination_by l.length
decreasing_by
  have : 0 < l.length := List.length_pos_iff.2 h
  rw [List.length_drop]
  omega
theorem wordsOf_nil : wordsOf [] = [] := by rw [wordsOf, dif_pos rfl]
theorem wordsOf_cons {l : List Int} (h : l ≠ []) : wordsOf l = leW (l.take 8) :: wordsOf (l.drop 8) := by rw [wordsOf, dif_neg h]
theorem wordsOf_range {l : List Int} (h : Bytes l) : ∀ w ∈ wordsOf l, InU w := by
 by_cases hl : l = []
 · rw [hl, wordsOf_nil]; simp
 · rw [wordsOf_cons hl]
   intro w hw
   rcases List.mem_cons.1 hw with rfl | hw
   · have h1 : Bytes (l.take 8) := fun x hx => h x (List.mem_of_mem_take hx)
     obtain ⟨h2, h3⟩ := leW_range h1
     have h4 : (256 : Int) ^ (l.take 8).length ≤ 256 ^ 8 := by
      have : (l.take 8).length ≤ 8 := by rw [List.length_take]; omega
      exact Int.ofNat_le.2 (Nat.pow_le_pow_right (by decide) this)
     have h5 : (256 : Int) ^ 8 = 18446744073709551616 := rfl
     exact ⟨h2, by omega⟩
   · have : (l.drop 8).length < l.length := by
       have : 0 < l.length := List.length_pos_iff.2 hl
       rw [List.length_drop]; omega
     exact wordsOf_range (l := l.drop 8) (fun x hx => h x (List.mem_of_mem_drop hx)) w hw
termination_by l.length
theorem or_above {w b k : Nat} (hw : w < 2 ^ k) : w ||| (b * 2 ^ k) = w + b * 2 ^ k := by
 have h := Nat.two_pow_add_eq_or_of_lt hw b
 rw [Nat.mul_comm b, Nat.or_comm, ← h, Nat.add_comm]
theorem orU {w b : Int} {k : Nat} (hw : 0 ≤ w ∧ w < 256 ^ k) (hb : 0 ≤ b ∧ b < 256) (hk : k < 8) :
  IntKind.wrap .u64 (((BitVec.ofInt (IntKind.bits .u64) w) ||| (BitVec.ofInt (IntKind.bits .u64) (IntKind.wrap .u64 (b * 2 ^ (min (8 * (k : Int)).toNat (IntKind.bits .u64)))))).toNat : Int) = w + b * 256 ^ k := by
 obtain ⟨w', rfl⟩ := Int.eq_ofNat_of_zero_le hw.1
 obtain ⟨b', rfl⟩ := Int.eq_ofNat_of_zero_le hb.1
 have e1 : min (8 * (k : Int)).toNat (IntKind.bits .u64) = 8 * k := by
  show min (8 * (k : Int)).toNat 64 = 8 * k
  omega
 have e2 : (256 : Nat) ^ k = 2 ^ (8 * k) := by rw [Nat.pow_mul]
 have hw2 : w' < 2 ^ (8 * k) := by
  have := hw.2
  rw [← e2]
  exact Int.ofNat_lt.1 (by rw [Int.natCast_pow]; exact this)
 have e3 : (256 : Int) ^ k = ((2 ^ (8 * k) : Nat) : Int) := by rw [← e2, Int.natCast_pow]; rfl
 have hp : 2 ^ (8 * k) ≤ 2 ^ 56 := Nat.pow_le_pow_right (by decide) (by omega)
 have hb2 : b' < 256 := by have := hb.2; omega
 have hbb : b' * 2 ^ (8 * k) ≤ 255 * 2 ^ 56 := Nat.mul_le_mul (by omega) hp
 have hbb2 : b' * 2 ^ (8 * k) < 18446744073709551616 := by omega
 have hw3 : w' < 18446744073709551616 := by omega
 have e4 : ((b' : Int) * 2 ^ (8 * k)) = ((b' * 2 ^ (8 * k) : Nat) : Int) := by rw [Int.natCast_mul, Int.natCast_pow]; rfl
 rw [e1, e4, wrap_u64 (n := ((b' * 2 ^ (8 * k) : Nat) : Int)) (by omega) (by omega), e3]
 show IntKind.wrap .u64 (((BitVec.ofInt 64 (w' : Int)) ||| (BitVec.ofInt 64 ((b' * 2 ^ (8 * k) : Nat) : Int))).toNat : Int) = _
 have e5 : ((BitVec.ofInt 64 (w' : Int)) ||| (BitVec.ofInt 64 ((b' * 2 ^ (8 * k) : Nat) : Int))).toNat = w' + b' * 2 ^ (8 * k) := by
  rw [BitVec.toNat_or, BitVec.toNat_ofInt, BitVec.toNat_ofInt, ← or_above hw2]
  congr 1 <;> omega
 rw [e5]
 have hsum : w' + b' * 2 ^ (8 * k) < 18446744073709551616 := by
  have : w' < 2 ^ 56 := by omega
  omega
 rw [wrap_u64 (by omega) (by omega), Int.natCast_add, Int.natCast_mul]
end Go.Proofs.Ytahaplbdhgfobaa.Eng
set_option linter.unusedVariables false
set_option linter.unusedSimpArgs false
namespace Go.Proofs.Ytahaplbdhgfobaa.Eng
theorem wordsOf_len (l : List Int) : (wordsOf l).length = (l.length + 7) / 8 := by
 by_cases hl : l = []
 · rw [hl, wordsOf_nil]; rfl
 · have h0 : 0 < l.length := List.length_pos_iff.2 hl
   have hlt : (l.drop 8).length < l.length := by rw [List.length_drop]; omega
   rw [wordsOf_cons hl, List.length_cons, wordsOf_len (l.drop 8), List.length_drop]
   omega
termination_by l.length
theorem wordsOf_nth (l : List Int) (k : Nat) (hk : 8 * k < l.length) : nth (wordsOf l) k = leW ((l.drop (8 * k)).take 8) := by
 induction k generalizing l with
 | zero =>
  have hl : l ≠ [] := fun q => by rw [q] at hk; simp at hk
  rw [wordsOf_cons hl]; rfl
 | succ k ih =>
  have hl : l ≠ [] := fun q => by rw [q] at hk; simp at hk
  rw [wordsOf_cons hl]
  show nth (wordsOf (l.drop 8)) k = _
  rw [ih (l.drop 8) (by rw [List.length_drop]; omega), List.drop_drop]
  congr 3
  omega
theorem words_iter {β : Type} (OI : β → Objs) (Inv : Nat → β → Prop) (ρ : Rho) (y : Nat) (l : List Int) (hB : Bytes l) (cb : Nat) (a : Option Addr) (c : Nat) (hlen : l.length ≤ 1000000000000)
  (hbox : ∀ x, Knows (OI x) cb ⟨0, false, [.slice a l.length c]⟩) (hsrc : ∀ x, Src (OI x) 1 (.slice a l.length c) l.length (l.map B8)) (x0 : β) (hI0 : Inv 0 x0)
  (hy : ∀ k x, k < (wordsOf l).length → Inv k x → SpecY Try.prog ρ y [U (nth (wordsOf l) k)] (OI x) fun O' => ∃ x', Inv (k + 1) x' ∧ O' = OI x') :
  SpecIn Try.prog ρ false 57 #[Yd y, Ptr cb 0] (OI x0) fun v O' => ∃ x', Inv (wordsOf l).length x' ∧ O' = OI x' := by
 have hwl := wordsOf_len l
 refine SpecIn.enter (args := [_, _]) (m := 38) Try.func57 rfl rfl (by decide +kernel) fun h0 => ?_
 refine WX.seq ?_
 refine WX.region rfl ?_
 refine WXL.assign Met.none rfl ?_
 refine WXL.nil ?_
 refine Fin.then_normal ?_
 refine WX.block ?_
 refine WX.loop (fun q : Nat × β => [(0, Yd y), (1, Ptr cb 0), (3, I ((8 * q.1 : Nat) : Int))]) (fun q => OI q.2) (fun q => q.1 ≤ (wordsOf l).length ∧ Inv q.1 q.2) (fun q => (wordsOf l).length - q.1) (0, x0) ⟨Nat.zero_le _, hI0⟩ (fun s hs => hs.tl [] 0) (fun q hq => ?_)
 obtain ⟨k, x⟩ := q
 obtain ⟨hk, hI⟩ := hq
 simp only at hk hI
 dsimp only
 have hb1 := hbox x
 have hs1 := hsrc x
 refine WX.seq ?_
 refine WX.seq ?_
 refine WX.region rfl ?_
 refine WXL.move Met.none rfl ?_
 first | refine WXL.ld Met.none rfl agg27 ?_ | refine WXL.ldS Met.none rfl agg27 ?_
 refine WXL.len Met.none rfl Try.underlying27 ?_
 refine WXL.bin Met.none rfl rfl rfl ?_
 refine WXL.nil ?_
 refine Fin.then_normal ?_
 refine WX.cond rfl (fun hc0 => ?_) (fun hc0 => ?_)
 · try simp only [cnd] at hc0
   refine WX.skip ?_
   refine Fin.then_normal ?_
   refine WX.seq ?_
   refine WX.block ?_
   refine WX.seq ?_
   refine WX.region rfl ?_
   refine WXL.assign Met.none rfl ?_
   refine WXL.nil ?_
   refine Fin.then_normal ?_
   refine WX.seq ?_
   refine WX.seq ?_
   refine WX.region rfl ?_
   refine WXL.move Met.none rfl ?_
   refine WXL.assign Met.none rfl ?_
   refine WXL.nil ?_
   refine Fin.then_normal ?_
   refine WX.block ?_
   refine WX.loop (fun j : Nat => [(0, Yd y), (1, Ptr cb 0), (3, I ((8 * k : Nat) : Int)), (4, U (leW ((l.drop (8 * k)).take j))), (5, I ((8 * k + j : Nat) : Int))]) (fun _ => OI x) (fun j => j ≤ 8 ∧ 8 * k + j ≤ l.length) (fun j => 8 - j) 0 ⟨by omega, by omega⟩ (fun s hs => hs.tl [] 0) (fun j hj => ?_)
   refine WX.seq ?_
   refine WX.seq ?_
   refine WX.region rfl ?_
   refine WXL.move Met.none rfl ?_
   refine WXL.move Met.none rfl ?_
   refine WXL.bin Met.none rfl rfl bvA ?_
   first | refine WXL.ld Met.none rfl agg27 ?_ | refine WXL.ldS Met.none rfl agg27 ?_
   refine WXL.len Met.none rfl Try.underlying27 ?_
   refine WXL.min Met.none rfl rfl ?_
   refine WXL.bin Met.none rfl rfl rfl ?_
   refine WXL.nil ?_
   refine Fin.then_normal ?_
   refine WX.cond rfl (fun hc1 => ?_) (fun hc1 => ?_)
   · try simp only [cnd] at hc1
     refine WX.skip ?_
     refine Fin.then_normal ?_
     refine WX.seq ?_
     refine WX.block ?_
     have hjl : 8 * k + j < l.length := by omega
     have hbj := hB _ (nth_mem hjl)
     have hdl : j < (l.drop (8 * k)).length := by rw [List.length_drop]; omega
     have hnd : nth (l.drop (8 * k)) j = nth l (8 * k + j) := by
      rw [nth_get hdl, nth_get hjl, List.getElem_drop]
     have hTB : Bytes ((l.drop (8 * k)).take j) := fun z hz => hB z (List.mem_of_mem_drop (List.mem_of_mem_take hz))
     have hTr := leW_range hTB
     have hTl : ((l.drop (8 * k)).take j).length = j := by rw [List.length_take]; omega
     rw [hTl] at hTr
     have hnext : leW ((l.drop (8 * k)).take (j + 1)) = leW ((l.drop (8 * k)).take j) + nth l (8 * k + j) * 256 ^ j := by
      rw [take_succ_nth hdl, leW_snoc, hTl, hnd]
     refine WX.region rfl ?_
     refine WXL.move Met.none rfl ?_
     first | refine WXL.ld Met.none rfl agg27 ?_ | refine WXL.ldS Met.none rfl agg27 ?_
     refine WXL.move Met.none rfl ?_
     first | refine WXL.ix Met.none rfl rfl elem27 sz5 ?_ | refine WXL.ixS Met.none rfl rfl elem27 sz5 ?_
     first | refine WXL.ld Met.none rfl agg5 ?_ | refine WXL.ldS Met.none rfl agg5 ?_
     refine WXL.conv Met.none rfl Try.underlying5 Try.underlying61 (wrap_u64 (by omega) (by omega)) ?_
     refine WXL.move Met.none rfl ?_
     refine WXL.move Met.none rfl ?_
     refine WXL.bin Met.none rfl rfl (show _ = some (I (j : Int)) from (binV_sub (by omega) (by omega)).trans (congrArg (fun n => some (I n)) (by omega))) ?_
     refine WXL.bin Met.none rfl rfl bvM ?_
     refine WXL.shl Met.none rfl rfl (by omega) ?_
     refine WXL.bin Met.none rfl rfl (congrArg (fun n => some (Value.int .u64 n)) (orU hTr hbj (by omega))) ?_
     refine WXL.assign Met.none rfl ?_
     refine WXL.nil ?_
     refine Fin.block_normal ?_
     refine Fin.then_normal ?_
     refine WX.region rfl ?_
     refine WXL.move Met.none rfl ?_
     refine WXL.bin Met.none rfl rfl bvA ?_
     refine WXL.assign Met.none rfl ?_
     refine WXL.nil ?_
     refine Fin.loop_next (j + 1) ⟨by omega, by omega⟩ (by omega) ?_
     rw [hnext]
     exact (fun s hs => hs.tl [] 0)
   · try simp only [cnd] at hc1
     refine WX.exit ?_
     refine Fin.then_exit ?_
     refine Fin.loop_exit ?_
     refine Fin.block_hit rfl ?_
     refine Fin.then_normal ?_
     refine WX.seq ?_
     have hkl : 8 * k < l.length := by omega
     have hw : leW ((l.drop (8 * k)).take j) = nth (wordsOf l) k := by
      rw [wordsOf_nth l k hkl]
      congr 1
      rcases Nat.lt_or_ge j 8 with q | q
      · rw [List.take_of_length_le (by rw [List.length_drop]; omega), List.take_of_length_le (by rw [List.length_drop]; omega)]
      · have : j = 8 := by omega
        rw [this]
     rw [hw]
     refine WX.region rfl ?_
     refine WXL.move Met.none rfl ?_
     refine WXL.move Met.none rfl ?_
     refine WXL.yield (O1 := _) Met.none rfl rfl (fun _ h => h) rfl rfl rfl rfl (hy k x (by omega) hI) (fun O' hp => ?_)
     obtain ⟨x', hI', rfl⟩ := hp
     refine WXL.not Met.none rfl ?_
     refine WXL.nil ?_
     refine Fin.then_normal ?_
     refine WX.cond rfl (fun hc2 => nomatch hc2) (fun hc2 => ?_)
     refine WX.skip ?_
     refine Fin.block_normal ?_
     refine Fin.then_normal ?_
     refine WX.region rfl ?_
     refine WXL.move Met.none rfl ?_
     refine WXL.bin Met.none rfl rfl bvA ?_
     refine WXL.assign Met.none rfl ?_
     refine WXL.nil ?_
     exact Fin.loop_next (k + 1, x') ⟨by simp only; omega, hI'⟩ (by simp only; omega) (fun s hs => hs.tl [] 0)
 · try simp only [cnd] at hc0
   refine WX.exit ?_
   refine Fin.then_exit ?_
   refine Fin.loop_exit ?_
   refine Fin.block_hit rfl ?_
   have hkk : k = (wordsOf l).length := by omega
   subst hkk
   exact Fin.result (O' := OI x) (.inl rfl) rfl rfl (fun _ h => h) ⟨x, hI, rfl⟩
end Go.Proofs.Ytahaplbdhgfobaa.Eng
set_option linter.unusedVariables false
set_option linter.unusedSimpArgs false
namespace Go.Proofs.Ytahaplbdhgfobaa.Eng
theorem words_ok (O : Objs) (a : Option Addr) (n c : Nat) :
  Spec Try.prog false 51 #[.slice a n c] O fun v O' => ∃ cb, v = .func (.func 57) #[] #[Ptr cb 0] ∧ O' = (cb, ⟨0, false, [.slice a n c]⟩) :: O := by
 refine Spec.enter (args := [_]) (m := 4) Try.func51 rfl rfl (by decide +kernel) fun h0 => ?_
 refine WX.seq ?_
 refine WX.region rfl ?_
 refine WXL.box (c := [_]) Met.none rfl rfl rfl (fun b1 => ?_)
 refine WXL.assign Met.none rfl ?_
 refine WXL.nil ?_
 refine Fin.then_normal ?_
 refine WX.seq ?_
 refine WX.region rfl ?_
 refine WXL.makeFunc Met.none rfl rfl ?_
 refine WXL.assign Met.none rfl ?_
 refine WXL.nil ?_
 refine Fin.then_normal ?_
 refine WX.ret ?_
 exact Fin.result (O' := (b1, ⟨0, false, [.slice a n c]⟩) :: O) (.inr rfl) rfl rfl drop_ ⟨b1, rfl, rfl⟩
end Go.Proofs.Ytahaplbdhgfobaa.Eng
set_option linter.unusedVariables false
set_option linter.unusedSimpArgs false
namespace Go.Proofs.Ytahaplbdhgfobaa.Eng
theorem wordsS_iter {β : Type} (OI : β → Objs) (Inv : Nat → β → Prop) (ρ : Rho) (y : Nat) (l : List Int) (hB : Bytes l) (cb : Nat) (hlen : l.length ≤ 1000000000000)
  (hbox : ∀ x, Knows (OI x) cb ⟨0, false, [.string (bstr l)]⟩) (x0 : β) (hI0 : Inv 0 x0)
  (hy : ∀ k x, k < (wordsOf l).length → Inv k x → SpecY Try.prog ρ y [U (nth (wordsOf l) k)] (OI x) fun O' => ∃ x', Inv (k + 1) x' ∧ O' = OI x') :
  SpecIn Try.prog ρ false 64 #[Yd y, Ptr cb 0] (OI x0) fun v O' => ∃ x', Inv (wordsOf l).length x' ∧ O' = OI x' := by
 have hwl := wordsOf_len l
 refine SpecIn.enter (args := [_, _]) (m := 37) Try.func64 rfl rfl (by decide +kernel) fun h0 => ?_
 refine WX.seq ?_
 refine WX.region rfl ?_
 refine WXL.assign Met.none rfl ?_
 refine WXL.nil ?_
 refine Fin.then_normal ?_
 refine WX.block ?_
 refine WX.loop (fun q : Nat × β => [(0, Yd y), (1, Ptr cb 0), (3, I ((8 * q.1 : Nat) : Int))]) (fun q => OI q.2) (fun q => q.1 ≤ (wordsOf l).length ∧ Inv q.1 q.2) (fun q => (wordsOf l).length - q.1) (0, x0) ⟨Nat.zero_le _, hI0⟩ (fun s hs => hs.tl [] 0) (fun q hq => ?_)
 obtain ⟨k, x⟩ := q
 obtain ⟨hk, hI⟩ := hq
 simp only at hk hI
 dsimp only
 have hb1 := hbox x
 have hsz := bstr_size l
 refine WX.seq ?_
 refine WX.seq ?_
 refine WX.region rfl ?_
 refine WXL.move Met.none rfl ?_
 first | refine WXL.ld Met.none rfl agg9 ?_ | refine WXL.ldS Met.none rfl agg9 ?_
 refine WXL.lenS Met.none rfl Try.underlying9 ?_
 rw [bstr_size]
 refine WXL.bin Met.none rfl rfl rfl ?_
 refine WXL.nil ?_
 refine Fin.then_normal ?_
 refine WX.cond rfl (fun hc0 => ?_) (fun hc0 => ?_)
 · try simp only [cnd] at hc0
   refine WX.skip ?_
   refine Fin.then_normal ?_
   refine WX.seq ?_
   refine WX.block ?_
   refine WX.seq ?_
   refine WX.region rfl ?_
   refine WXL.assign Met.none rfl ?_
   refine WXL.nil ?_
   refine Fin.then_normal ?_
   refine WX.seq ?_
   refine WX.seq ?_
   refine WX.region rfl ?_
   refine WXL.move Met.none rfl ?_
   refine WXL.assign Met.none rfl ?_
   refine WXL.nil ?_
   refine Fin.then_normal ?_
   refine WX.block ?_
   refine WX.loop (fun j : Nat => [(0, Yd y), (1, Ptr cb 0), (3, I ((8 * k : Nat) : Int)), (4, U (leW ((l.drop (8 * k)).take j))), (5, I ((8 * k + j : Nat) : Int))]) (fun _ => OI x) (fun j => j ≤ 8 ∧ 8 * k + j ≤ l.length) (fun j => 8 - j) 0 ⟨by omega, by omega⟩ (fun s hs => hs.tl [] 0) (fun j hj => ?_)
   refine WX.seq ?_
   refine WX.seq ?_
   refine WX.region rfl ?_
   refine WXL.move Met.none rfl ?_
   refine WXL.move Met.none rfl ?_
   refine WXL.bin Met.none rfl rfl bvA ?_
   first | refine WXL.ld Met.none rfl agg9 ?_ | refine WXL.ldS Met.none rfl agg9 ?_
   refine WXL.lenS Met.none rfl Try.underlying9 ?_
   rw [bstr_size]
   refine WXL.min Met.none rfl rfl ?_
   refine WXL.bin Met.none rfl rfl rfl ?_
   refine WXL.nil ?_
   refine Fin.then_normal ?_
   refine WX.cond rfl (fun hc1 => ?_) (fun hc1 => ?_)
   · try simp only [cnd] at hc1
     refine WX.skip ?_
     refine Fin.then_normal ?_
     refine WX.seq ?_
     refine WX.block ?_
     have hjl : 8 * k + j < l.length := by omega
     have hbj := hB _ (nth_mem hjl)
     have hdl : j < (l.drop (8 * k)).length := by rw [List.length_drop]; omega
     have hnd : nth (l.drop (8 * k)) j = nth l (8 * k + j) := by
      rw [nth_get hdl, nth_get hjl, List.getElem_drop]
     have hTB : Bytes ((l.drop (8 * k)).take j) := fun z hz => hB z (List.mem_of_mem_drop (List.mem_of_mem_take hz))
     have hTr := leW_range hTB
     have hTl : ((l.drop (8 * k)).take j).length = j := by rw [List.length_take]; omega
     rw [hTl] at hTr
     have hnext : leW ((l.drop (8 * k)).take (j + 1)) = leW ((l.drop (8 * k)).take j) + nth l (8 * k + j) * 256 ^ j := by
      rw [take_succ_nth hdl, leW_snoc, hTl, hnd]
     refine WX.region rfl ?_
     refine WXL.move Met.none rfl ?_
     first | refine WXL.ld Met.none rfl agg9 ?_ | refine WXL.ldS Met.none rfl agg9 ?_
     refine WXL.move Met.none rfl ?_
     refine WXL.idxStr Met.none rfl rfl Try.underlying9 (by assumption) (by omega) ?_
     refine WXL.conv Met.none rfl Try.underlying5 Try.underlying61 (wrap_u64 (by omega) (by omega)) ?_
     refine WXL.move Met.none rfl ?_
     refine WXL.move Met.none rfl ?_
     refine WXL.bin Met.none rfl rfl (show _ = some (I (j : Int)) from (binV_sub (by omega) (by omega)).trans (congrArg (fun n => some (I n)) (by omega))) ?_
     refine WXL.bin Met.none rfl rfl bvM ?_
     refine WXL.shl Met.none rfl rfl (by omega) ?_
     refine WXL.bin Met.none rfl rfl (congrArg (fun n => some (Value.int .u64 n)) (orU hTr hbj (by omega))) ?_
     refine WXL.assign Met.none rfl ?_
     refine WXL.nil ?_
     refine Fin.block_normal ?_
     refine Fin.then_normal ?_
     refine WX.region rfl ?_
     refine WXL.move Met.none rfl ?_
     refine WXL.bin Met.none rfl rfl bvA ?_
     refine WXL.assign Met.none rfl ?_
     refine WXL.nil ?_
     refine Fin.loop_next (j + 1) ⟨by omega, by omega⟩ (by omega) ?_
     rw [hnext]
     exact (fun s hs => hs.tl [] 0)
   · try simp only [cnd] at hc1
     refine WX.exit ?_
     refine Fin.then_exit ?_
     refine Fin.loop_exit ?_
     refine Fin.block_hit rfl ?_
     refine Fin.then_normal ?_
     refine WX.seq ?_
     have hkl : 8 * k < l.length := by omega
     have hw : leW ((l.drop (8 * k)).take j) = nth (wordsOf l) k := by
      rw [wordsOf_nth l k hkl]
      congr 1
      rcases Nat.lt_or_ge j 8 with q | q
      · rw [List.take_of_length_le (by rw [List.length_drop]; omega), List.take_of_length_le (by rw [List.length_drop]; omega)]
      · have : j = 8 := by omega
        rw [this]
     rw [hw]
     refine WX.region rfl ?_
     refine WXL.move Met.none rfl ?_
     refine WXL.move Met.none rfl ?_
     refine WXL.yield (O1 := _) Met.none rfl rfl (fun _ h => h) rfl rfl rfl rfl (hy k x (by omega) hI) (fun O' hp => ?_)
     obtain ⟨x', hI', rfl⟩ := hp
     refine WXL.not Met.none rfl ?_
     refine WXL.nil ?_
     refine Fin.then_normal ?_
     refine WX.cond rfl (fun hc2 => nomatch hc2) (fun hc2 => ?_)
     refine WX.skip ?_
     refine Fin.block_normal ?_
     refine Fin.then_normal ?_
     refine WX.region rfl ?_
     refine WXL.move Met.none rfl ?_
     refine WXL.bin Met.none rfl rfl bvA ?_
     refine WXL.assign Met.none rfl ?_
     refine WXL.nil ?_
     exact Fin.loop_next (k + 1, x') ⟨by simp only; omega, hI'⟩ (by simp only; omega) (fun s hs => hs.tl [] 0)
 · try simp only [cnd] at hc0
   refine WX.exit ?_
   refine Fin.then_exit ?_
   refine Fin.loop_exit ?_
   refine Fin.block_hit rfl ?_
   have hkk : k = (wordsOf l).length := by omega
   subst hkk
   exact Fin.result (O' := OI x) (.inl rfl) rfl rfl (fun _ h => h) ⟨x, hI, rfl⟩
end Go.Proofs.Ytahaplbdhgfobaa.Eng
set_option linter.unusedVariables false
set_option linter.unusedSimpArgs false
namespace Go.Proofs.Ytahaplbdhgfobaa.Eng
theorem wordsS_ok (O : Objs) (s : ByteArray) :
  Spec Try.prog false 58 #[.string s] O fun v O' => ∃ cb, v = .func (.func 64) #[] #[Ptr cb 0] ∧ O' = (cb, ⟨0, false, [.string s]⟩) :: O := by
 refine Spec.enter (args := [_]) (m := 4) Try.func58 rfl rfl (by decide +kernel) fun h0 => ?_
 refine WX.seq ?_
 refine WX.region rfl ?_
 refine WXL.box (c := [_]) Met.none rfl rfl rfl (fun b1 => ?_)
 refine WXL.assign Met.none rfl ?_
 refine WXL.nil ?_
 refine Fin.then_normal ?_
 refine WX.seq ?_
 refine WX.region rfl ?_
 refine WXL.makeFunc Met.none rfl rfl ?_
 refine WXL.assign Met.none rfl ?_
 refine WXL.nil ?_
 refine Fin.then_normal ?_
 refine WX.ret ?_
 exact Fin.result (O' := (b1, ⟨0, false, [.string s]⟩) :: O) (.inr rfl) rfl rfl drop_ ⟨b1, rfl, rfl⟩
def sumU (label : List Int) (l : List Int) : Int :=
 mixU (l.foldl (fun s n => mixU s (IntKind.wrap .u64 n)) (mixU (mixU ((wordsOf label).foldl mixU 0) label.length) l.length)) 0
theorem sum_ok (O : Objs) (label l : List Int) (a : Option Addr) (c : Nat) (hB : Bytes label) (hll : label.length ≤ 1000000000000) (hlen : l.length ≤ 1000000000000) (hl : Src O 1 (.slice a l.length c) l.length (l.map I)) :
  Spec Try.prog false 52 #[.string (bstr label), .slice a l.length c] O fun v O' => v = U (sumU label l) ∧ O' = O := by
 refine Spec.enter (args := [_, _]) (m := 37) Try.func52 rfl rfl (by decide +kernel) fun h0 => ?_
 refine WX.seq ?_
 refine WX.region rfl ?_
 refine WXL.assign Met.none rfl ?_
 refine WXL.nil ?_
 refine Fin.then_normal ?_
 refine WX.seq ?_
 refine WX.region rfl ?_
 refine WXL.alloc (c := [_]) Met.none zero61 rfl (fun b5 => ?_)
 refine WXL.st (vs := [_]) (c' := [_]) Met.none rfl rfl rfl sz61 ?_
 refine WXL.nil ?_
 refine Fin.then_normal ?_
 refine WX.seq ?_
 refine WX.seq ?_
 refine WX.region rfl ?_
 refine WXL.move Met.none rfl ?_
 refine WXL.cl (O1 := _) Met.none rfl (fnOk_of Try.func58 (by decide +kernel)) rfl (fun _ h => h) (wordsS_ok _ (bstr label)) (fun v O' hp => ?_)
 obtain ⟨cb, rfl, rfl⟩ := hp
 refine WXL.nil ?_
 refine Fin.then_normal ?_
 refine WX.block ?_
 refine WX.rangeFunc (fun q : Int => (cb, ⟨0, false, [.string (bstr label)]⟩) :: (b5, ⟨0, false, [U q]⟩) :: O) (fun k q => q = ((wordsOf label).take k).foldl mixU 0) (wordsOf label).length (fun k => [U (nth (wordsOf label) k)]) 0 ⟨rfl, rfl⟩ rfl (fnOk_of Try.func64 (by decide +kernel)) (fun s hs => hs.sat) rfl rfl (fun _ => rfl)
  (fun ρ b hy => wordsS_iter (fun q : Int => (cb, ⟨0, false, [.string (bstr label)]⟩) :: (b5, ⟨0, false, [U q]⟩) :: O) (fun k q => q = ((wordsOf label).take k).foldl mixU 0) ρ b label hB cb hll (fun x => Knows.at 0 rfl) 0 rfl hy) (fun h0 ρ k y hk hy => ?_) (fun y hy => ?_)
 · refine WX.seq ?_
   refine WX.region rfl ?_
   refine WXL.assign Met.none rfl ?_
   refine WXL.nil ?_
   refine Fin.then_normal ?_
   refine WX.block ?_
   refine WX.region rfl ?_
   first | refine WXL.ld Met.none rfl agg61 ?_ | refine WXL.ldS Met.none rfl agg61 ?_
   refine WXL.move Met.none rfl ?_
   refine WXL.cl (O1 := _) Met.none rfl (fnOk_of Try.func59 (by decide +kernel)) rfl (fun _ h => h) (mix_ok _ y (nth (wordsOf label) k)) (fun v O' hp => ?_)
   obtain ⟨rfl, hO⟩ := hp
   subst O'
   refine WXL.st (vs := [_]) (c' := [_]) Met.none rfl rfl rfl sz61 ?_
   refine WXL.nil ?_
   refine Fin.block_normal ?_
   exact Fin.round (mixU y (nth (wordsOf label) k)) (by rw [take_succ_nth hk, List.foldl_append, ← hy]; rfl) (fun h hh => hh)
 · skip
   refine Fin.block_normal ?_
   refine Fin.then_normal ?_
   refine WX.seq ?_
   have hsz := bstr_size label
   rw [List.take_length] at hy
   obtain ⟨s0, hs0⟩ : ∃ s0, s0 = mixU (mixU y label.length) l.length := ⟨_, rfl⟩
   refine WX.region rfl ?_
   first | refine WXL.ld Met.none rfl agg61 ?_ | refine WXL.ldS Met.none rfl agg61 ?_
   refine WXL.move Met.none rfl ?_
   refine WXL.lenS Met.none rfl Try.underlying9 ?_
   rw [bstr_size]
   refine WXL.conv Met.none rfl Try.underlying3 Try.underlying61 cv_ ?_
   refine WXL.cl (O1 := _) Met.none rfl (fnOk_of Try.func59 (by decide +kernel)) rfl (fun _ h => h) (mix_ok _ y (label.length : Int)) (fun v O' hp => ?_)
   obtain ⟨rfl, hO⟩ := hp
   subst O'
   refine WXL.move Met.none rfl ?_
   refine WXL.len Met.none rfl Try.underlying33 ?_
   refine WXL.conv Met.none rfl Try.underlying3 Try.underlying61 cv_ ?_
   refine WXL.cl (O1 := _) Met.none rfl (fnOk_of Try.func59 (by decide +kernel)) rfl (fun _ h => h) (mix_ok _ (mixU y label.length) (l.length : Int)) (fun v O' hp => ?_)
   obtain ⟨rfl, hO⟩ := hp
   subst O'
   refine WXL.st (vs := [_]) (c' := [_]) Met.none rfl rfl rfl sz61 ?_
   refine WXL.nil ?_
   refine Fin.then_normal ?_
   refine WX.seq ?_
   refine WX.seq ?_
   refine WX.region rfl ?_
   refine WXL.move Met.none rfl ?_
   refine WXL.len Met.none rfl Try.underlying33 ?_
   refine WXL.move Met.none rfl ?_
   refine WXL.nil ?_
   refine Fin.then_normal ?_
   refine WX.block ?_
   refine WX.loop (fun k : Nat => [(5, Ptr b5 0), (24, .slice a l.length c), (25, I (l.length : Int)), (26, I (k : Int))]) (fun k => (b5, ⟨0, false, [U ((l.take k).foldl (fun s n => mixU s (IntKind.wrap .u64 n)) s0)]⟩) :: O) (fun k => k ≤ l.length) (fun k => l.length - k) 0 (Nat.zero_le _) ?_ (fun k hk => ?_)
   · rw [hs0]
     exact (fun s hs => hs.tl [1] 2)
   refine WX.seq ?_
   refine WX.region rfl ?_
   refine WXL.bin Met.none rfl rfl rfl ?_
   refine WXL.nil ?_
   refine Fin.then_normal ?_
   refine WX.seq ?_
   refine WX.cond rfl (fun hc0 => ?_) (fun hc0 => ?_)
   · try simp only [cnd] at hc0
     refine WX.skip ?_
     refine Fin.then_normal ?_
     refine WX.seq ?_
     refine WX.block ?_
     refine WX.seq ?_
     refine WX.region rfl ?_
     first | refine WXL.ix Met.none rfl rfl elem33 sz3 ?_ | refine WXL.ixS Met.none rfl rfl elem33 sz3 ?_
     first | refine WXL.ld Met.none rfl agg3 ?_ | refine WXL.ldS Met.none rfl agg3 ?_
     refine WXL.assign Met.none rfl ?_
     refine WXL.nil ?_
     refine Fin.then_normal ?_
     refine WX.region rfl ?_
     first | refine WXL.ld Met.none rfl agg61 ?_ | refine WXL.ldS Met.none rfl agg61 ?_
     refine WXL.move Met.none rfl ?_
     refine WXL.conv Met.none rfl Try.underlying3 Try.underlying61 rfl ?_
     refine WXL.cl (O1 := _) Met.none rfl (fnOk_of Try.func59 (by decide +kernel)) rfl (fun _ h => h) (mix_ok _ ((l.take k).foldl (fun s n => mixU s (IntKind.wrap .u64 n)) s0) (IntKind.wrap .u64 (nth l k))) (fun v O' hp => ?_)
     obtain ⟨rfl, hO⟩ := hp
     subst O'
     refine WXL.st (vs := [_]) (c' := [_]) Met.none rfl rfl rfl sz61 ?_
     refine WXL.nil ?_
     refine Fin.block_normal ?_
     refine Fin.then_normal ?_
     refine WX.region rfl ?_
     refine WXL.bin Met.none rfl rfl bvA ?_
     refine WXL.move Met.none rfl ?_
     refine WXL.nil ?_
     refine Fin.loop_next (k + 1) (by omega) (by omega) ?_
     rw [take_succ_nth (by omega), List.foldl_append]
     exact (fun s hs => hs.tl [0] 1)
   · try simp only [cnd] at hc0
     refine WX.exit ?_
     refine Fin.then_exit ?_
     refine Fin.loop_exit ?_
     refine Fin.block_hit rfl ?_
     refine Fin.then_normal ?_
     refine WX.seq ?_
     have hkl : k = l.length := by omega
     subst hkl
     rw [List.take_length]
     refine WX.region rfl ?_
     first | refine WXL.ld Met.none rfl agg61 ?_ | refine WXL.ldS Met.none rfl agg61 ?_
     refine WXL.cl (O1 := _) Met.none rfl (fnOk_of Try.func59 (by decide +kernel)) rfl (fun _ h => h) (mix_ok _ (l.foldl (fun s n => mixU s (IntKind.wrap .u64 n)) s0) 0) (fun v O' hp => ?_)
     obtain ⟨rfl, hO⟩ := hp
     subst O'
     refine WXL.assign Met.none rfl ?_
     refine WXL.nil ?_
     refine Fin.then_normal ?_
     refine WX.ret ?_
     exact Fin.result (O' := O) (.inr rfl) rfl rfl drop_ ⟨by rw [hs0, hy]; rfl, rfl⟩
end Go.Proofs.Ytahaplbdhgfobaa.Eng
set_option linter.unusedVariables false
set_option linter.unusedSimpArgs false
namespace Go.Proofs.Ytahaplbdhgfobaa.Eng
def asI (w : Int) : Int := IntKind.wrap .i64 w
def hashB (label b : List Int) : Int := sumU label ((wordsOf b).map asI ++ [(b.length : Int)])
theorem hash_ok (O : Objs) (label b : List Int) (a : Option Addr) (c : Nat) (hB : Bytes label) (hb : Bytes b) (hll : label.length ≤ 1000000000000) (hlen : b.length ≤ 1000000000000) (hl : Src O 1 (.slice a b.length c) b.length (b.map B8)) :
  Spec Try.prog false 32 #[.string (bstr label), .slice a b.length c] O fun v O' => v = U (hashB label b) ∧ O' = O := by
 have hwl := wordsOf_len b
 refine Spec.enter (args := [_, _]) (m := 22) Try.func32 rfl rfl (by decide +kernel) fun h0 => ?_
 refine WX.seq ?_
 refine WX.region rfl ?_
 refine WXL.assign Met.none rfl ?_
 refine WXL.nil ?_
 refine Fin.then_normal ?_
 refine WX.seq ?_
 refine WX.region rfl ?_
 refine WXL.alloc (c := [_]) Met.none zero33 rfl (fun b5 => ?_)
 refine WXL.nil ?_
 refine Fin.then_normal ?_
 refine WX.seq ?_
 refine WX.seq ?_
 refine WX.region rfl ?_
 refine WXL.move Met.none rfl ?_
 refine WXL.cl (O1 := _) Met.none rfl (fnOk_of Try.func51 (by decide +kernel)) rfl (fun _ h => h) (words_ok _ a b.length c) (fun v O' hp => ?_)
 obtain ⟨cb, rfl, rfl⟩ := hp
 refine WXL.nil ?_
 refine Fin.then_normal ?_
 refine WX.block ?_
 refine WX.rangeFunc (fun q : Nat × Option Addr × Nat × Objs => (cb, ⟨0, false, [.slice a b.length c]⟩) :: (b5, ⟨0, false, [.slice q.2.1 q.1 q.2.2.1]⟩) :: (q.2.2.2 ++ O)) (fun k q => q.1 = k ∧ Grow 1 q.2.1 q.1 q.2.2.1 (((wordsOf b).take k).map fun w => I (asI w)) q.2.2.2) (wordsOf b).length (fun k => [U (nth (wordsOf b) k)]) (0, none, 0, []) ⟨rfl, rfl⟩ rfl (fnOk_of Try.func57 (by decide +kernel)) (fun s hs => hs.sat) rfl ⟨rfl, .nil⟩ (fun _ => rfl)
  (fun ρ y hy => words_iter (fun q : Nat × Option Addr × Nat × Objs => (cb, ⟨0, false, [.slice a b.length c]⟩) :: (b5, ⟨0, false, [.slice q.2.1 q.1 q.2.2.1]⟩) :: (q.2.2.2 ++ O)) (fun k q => q.1 = k ∧ Grow 1 q.2.1 q.1 q.2.2.1 (((wordsOf b).take k).map fun w => I (asI w)) q.2.2.2) ρ y b hb cb a c hlen (fun x => Knows.at 0 rfl) (fun x => Src.cons (Src.cons (Src.app hl))) (0, none, 0, []) ⟨rfl, .nil⟩ hy) (fun h0 ρ k q hk hq => ?_) (fun q hq => ?_)
 · refine WX.seq ?_
   obtain ⟨k', aw, cw, Gw⟩ := q
   obtain ⟨hkk, hGw⟩ := hq
   simp only at hkk hGw
   subst hkk
   dsimp only
   refine WX.region rfl ?_
   refine WXL.assign Met.none rfl ?_
   refine WXL.nil ?_
   refine Fin.then_normal ?_
   refine WX.block ?_
   refine WX.region rfl ?_
   first | refine WXL.ld Met.none rfl agg33 ?_ | refine WXL.ldS Met.none rfl agg33 ?_
   refine WXL.move Met.none rfl ?_
   refine WXL.conv Met.none rfl Try.underlying61 Try.underlying3 rfl ?_
   refine WXL.buildSlice (c := [_]) Met.none rfl elem33 sz3 zero3 (by decide) (by decide) rfl rfl rfl rfl (fun b13 => ?_)
   refine WXL.apG [_, _, _] Met.none rfl rfl isrow33 elem33 sz3 by3 zero3 (Src.lit (cs := [_])) (fun a14 c14 G14 hG14 => ?_)
   refine WXL.st (vs := [_]) (c' := [_]) Met.none rfl rfl rfl sz33 ?_
   refine WXL.nil ?_
   refine Fin.block_normal ?_
   refine Fin.round (k' + 1, a14, c14, G14) ⟨rfl, ?_⟩ (fun h hh => Sat.tl [1, 2] 3 hh)
   rw [take_succ_nth hk, List.map_append]
   exact hG14
 · skip
   refine Fin.block_normal ?_
   refine Fin.then_normal ?_
   refine WX.seq ?_
   obtain ⟨k', aw, cw, Gw⟩ := q
   obtain ⟨hkk, hGw⟩ := hq
   simp only at hkk hGw
   subst hkk
   dsimp only
   rw [List.take_length] at hGw
   refine WX.region rfl ?_
   refine WXL.move Met.none rfl ?_
   first | refine WXL.ld Met.none rfl agg33 ?_ | refine WXL.ldS Met.none rfl agg33 ?_
   refine WXL.move Met.none rfl ?_
   refine WXL.len Met.none rfl Try.underlying27 ?_
   refine WXL.buildSlice (c := [_]) Met.none rfl elem33 sz3 zero3 (by decide) (by decide) rfl rfl rfl rfl (fun b19 => ?_)
   refine WXL.apG [_, _, _] Met.none rfl rfl isrow33 elem33 sz3 by3 zero3 (Src.lit (cs := [_])) (fun a20 c20 G20 hG20 => ?_)
   rw [show (wordsOf b).length + 1 = ((wordsOf b).map asI ++ [(b.length : Int)]).length from by simp]
   refine WXL.cl (O1 := _) Met.none rfl (fnOk_of Try.func52 (by decide +kernel)) rfl (fun _ h => h) (sum_ok _ label ((wordsOf b).map asI ++ [(b.length : Int)]) a20 c20 hB hll (by rw [List.length_append, List.length_map, List.length_singleton]; omega) (Src.cons (Src.cons (Src.cons (by have := hG20.src (R := O); simpa [Function.comp_def] using this))))) (fun v O' hp => ?_)
   obtain ⟨rfl, hO⟩ := hp
   subst O'
   refine WXL.assign Met.none rfl ?_
   refine WXL.nil ?_
   refine Fin.then_normal ?_
   refine WX.ret ?_
   exact Fin.result (O' := O) (.inr rfl) rfl rfl (fun _ hs => by have h2 := hs.tail.tail.tail; exact Sat.app_right (N := G20) (by first | exact h2 | exact h2.app_right)) ⟨rfl, rfl⟩
end Go.Proofs.Ytahaplbdhgfobaa.Eng
set_option linter.unusedVariables false
set_option linter.unusedSimpArgs false
namespace Go.Proofs.Ytahaplbdhgfobaa.Eng
def gB (s w : BitVec 64) : BitVec 64 := ((s ^^^ w) * 11400714819323198485#64) ^^^ (((s ^^^ w) * 11400714819323198485#64) >>> 32)
theorem shift_inj {x y : BitVec 64} (h : x ^^^ (x >>> 32) = y ^^^ (y >>> 32)) : x = y := by
 have key : ∀ z : BitVec 64, (z ^^^ (z >>> 32)) ^^^ ((z ^^^ (z >>> 32)) >>> 32) = z := by
  intro z
  have e1 : (z ^^^ (z >>> 32)) >>> 32 = z >>> 32 := by
   rw [BitVec.ushiftRight_xor_distrib, ← BitVec.shiftRight_add]
   have : z >>> (32 + 32) = 0#64 := BitVec.ushiftRight_eq_zero (by decide)
   rw [this, BitVec.xor_zero]
  rw [e1, BitVec.xor_assoc, BitVec.xor_self, BitVec.xor_zero]
 rw [← key x, ← key y, h]
theorem mul_inj {x y : BitVec 64} (h : x * 11400714819323198485#64 = y * 11400714819323198485#64) : x = y := by
 have e : (11400714819323198485#64) * 17428512612931826493#64 = 1#64 := by decide
 have : x * 11400714819323198485#64 * 17428512612931826493#64 = y * 11400714819323198485#64 * 17428512612931826493#64 := by rw [h]
 rwa [BitVec.mul_assoc, BitVec.mul_assoc, e, BitVec.mul_one, BitVec.mul_one] at this
theorem gB_left {s s' w : BitVec 64} (h : gB s w = gB s' w) : s = s' := by
 have h1 := mul_inj (shift_inj h)
 have : s ^^^ w ^^^ w = s' ^^^ w ^^^ w := by rw [h1]
 rwa [BitVec.xor_assoc, BitVec.xor_assoc, BitVec.xor_self, BitVec.xor_zero, BitVec.xor_zero] at this
theorem gB_right {s w w' : BitVec 64} (h : gB s w = gB s w') : w = w' := by
 unfold gB at h
 rw [BitVec.xor_comm s w, BitVec.xor_comm s w'] at h
 exact gB_left (s := w) (s' := w') (w := s) h
theorem bv_of {a : Int} (h : InU a) : ((BitVec.ofInt 64 a).toNat : Int) = a := by
 unfold InU at h
 rw [BitVec.toNat_ofInt]
 omega
theorem bv_inj {a b : Int} (ha : InU a) (hb : InU b) (h : BitVec.ofInt 64 a = BitVec.ofInt 64 b) : a = b := by
 rw [← bv_of ha, ← bv_of hb, h]
theorem xorU_bv (a b : Int) : xorU a b = (((BitVec.ofInt 64 a) ^^^ (BitVec.ofInt 64 b)).toNat : Int) := by
 unfold xorU
 have := ((BitVec.ofInt 64 a) ^^^ (BitVec.ofInt 64 b)).isLt
 exact wrap_u64 (by omega) (by omega)
theorem bv_nat (x : BitVec 64) : BitVec.ofInt 64 (x.toNat : Int) = x := by
 apply BitVec.eq_of_toNat_eq
 rw [BitVec.toNat_ofInt]
 have := x.isLt
 omega
theorem mixU_bv (s w : Int) : mixU s w = ((gB (BitVec.ofInt 64 s) (BitVec.ofInt 64 w)).toNat : Int) := by
 unfold mixU
 rw [xorU_bv s w]
 obtain ⟨x, hx⟩ : ∃ x, x = (BitVec.ofInt 64 s) ^^^ (BitVec.ofInt 64 w) := ⟨_, rfl⟩
 rw [← hx]
 obtain ⟨m, hm⟩ : ∃ m, m = x * 11400714819323198485#64 := ⟨_, rfl⟩
 have e1 : IntKind.wrap .u64 ((x.toNat : Int) * 11400714819323198485) = (m.toNat : Int) := by
  rw [wrap_mod, hm, BitVec.toNat_mul]
  show ((x.toNat : Int) * 11400714819323198485) % 18446744073709551616 = ((x.toNat * 11400714819323198485 % 18446744073709551616 : Nat) : Int)
  omega
 rw [e1, xorU_bv, bv_nat]
 have e2 : BitVec.ofInt 64 ((m.toNat : Int).fdiv 4294967296) = m >>> 32 := by
  apply BitVec.eq_of_toNat_eq
  rw [Int.fdiv_eq_ediv_of_nonneg _ (by decide), BitVec.toNat_ofInt, BitVec.toNat_ushiftRight, Nat.shiftRight_eq_div_pow]
  have := m.isLt
  omega
 rw [e2]
 unfold gB
 rw [← hx, ← hm]
theorem mixU_range (s w : Int) : InU (mixU s w) := by
 rw [mixU_bv]
 have := (gB (BitVec.ofInt 64 s) (BitVec.ofInt 64 w)).isLt
 unfold InU
 omega
theorem mixU_left {s s' w : Int} (hs : InU s) (hs' : InU s') (h : mixU s w = mixU s' w) : s = s' := by
 rw [mixU_bv, mixU_bv] at h
 exact bv_inj hs hs' (gB_left (w := BitVec.ofInt 64 w) (BitVec.eq_of_toNat_eq (Int.ofNat.inj h)))
theorem mixU_right {s w w' : Int} (hw : InU w) (hw' : InU w') (h : mixU s w = mixU s w') : w = w' := by
 rw [mixU_bv, mixU_bv] at h
 exact bv_inj hw hw' (gB_right (s := BitVec.ofInt 64 s) (BitVec.eq_of_toNat_eq (Int.ofNat.inj h)))
def foldU (s : Int) (l : List Int) : Int := l.foldl (fun s n => mixU s (IntKind.wrap .u64 n)) s
theorem foldU_range {s : Int} (hs : InU s) : ∀ {l : List Int}, InU (foldU s l) := by
 intro l
 induction l generalizing s with
 | nil => exact hs
 | cons a l ih => exact ih (s := mixU s (IntKind.wrap .u64 a)) (mixU_range _ _)
theorem foldU_left {l : List Int} : ∀ {s s' : Int}, InU s → InU s' → foldU s l = foldU s' l → s = s' := by
 induction l with
 | nil => intro s s' _ _ h; exact h
 | cons a l ih =>
  intro s s' hs hs' h
  exact mixU_left hs hs' (ih (mixU_range _ _) (mixU_range _ _) h)
theorem foldU_one {p q : List Int} {a a' s : Int} (hs : InU s) (h : foldU s (p ++ a :: q) = foldU s (p ++ a' :: q)) : IntKind.wrap .u64 a = IntKind.wrap .u64 a' := by
 unfold foldU at h
 rw [List.foldl_append, List.foldl_append] at h
 have h2 := foldU_left (l := q) (mixU_range _ _) (mixU_range _ _) h
 exact mixU_right (wrapU_range _) (wrapU_range _) h2
theorem wrap_asI {w : Int} (h : InU w) : IntKind.wrap .u64 (asI w) = w := by
 unfold InU at h
 unfold asI
 rw [wrap_mod]
 unfold IntKind.wrap
 have e1 : (2 : Int) ^ IntKind.bits .i64 = 18446744073709551616 := rfl
 have e2 : (2 : Int) ^ (IntKind.bits .i64 - 1) = 9223372036854775808 := rfl
 have e3 : IntKind.signed .i64 = true := rfl
 simp only [e1, e2, e3, Bool.true_and, decide_eq_true_eq]
 split <;> omega
theorem leW_inj : ∀ {l m : List Int}, Bytes l → Bytes m → l.length = m.length → leW l = leW m → l = m
 | [], [], _, _, _, _ => rfl
 | [], _ :: _, _, _, h, _ => by simp at h
 | _ :: _, [], _, _, h, _ => by simp at h
 | a :: l, b :: m, hl, hm, h, he => by
  have ha := hl a (List.mem_cons_self ..)
  have hb := hm b (List.mem_cons_self ..)
  unfold leW at he
  have e1 : a = b := by omega
  have e2 : leW l = leW m := by omega
  rw [e1, leW_inj (fun x hx => hl x (List.mem_cons_of_mem _ hx)) (fun x hx => hm x (List.mem_cons_of_mem _ hx)) (by simpa using h) e2]
theorem wordsOf_set (b : List Int) (j : Nat) (x : Int) (hB : Bytes b) (hx : 0 ≤ x ∧ x < 256) (hj : j < b.length) (hne : nth b j ≠ x) :
  ∃ p q w w', wordsOf b = p ++ w :: q ∧ wordsOf (b.set j x) = p ++ w' :: q ∧ w ≠ w' ∧ InU w ∧ InU w' := by
 have hbn : b ≠ [] := fun q => by rw [q] at hj; simp at hj
 have hsn : b.set j x ≠ [] := fun q => hbn (by have := congrArg List.length q; rw [List.length_set] at this; exact List.length_eq_zero_iff.1 this)
 have hsB : Bytes (b.set j x) := fun z hz => by
  rcases List.mem_or_eq_of_mem_set hz with q | q
  · exact hB z q
  · rw [q]; exact hx
 have r1 := wordsOf_range hB
 have r2 := wordsOf_range hsB
 rw [wordsOf_cons hbn] at r1 ⊢
 rw [wordsOf_cons hsn] at r2 ⊢
 by_cases h8 : j < 8
 · have e1 : (b.set j x).drop 8 = b.drop 8 := by rw [List.drop_set, if_pos h8]
   rw [e1] at r2 ⊢
   refine ⟨[], _, _, _, rfl, rfl, fun he => hne ?_, r1 _ (List.mem_cons_self ..), r2 _ (List.mem_cons_self ..)⟩
   have e2 := leW_inj (fun z hz => hB z (List.mem_of_mem_take hz)) (fun z hz => hsB z (List.mem_of_mem_take hz)) (by rw [List.length_take, List.length_take, List.length_set]) he
   have e3 : (b.take 8)[j]? = ((b.set j x).take 8)[j]? := by rw [e2]
   rw [List.getElem?_take, List.getElem?_take, if_pos h8, if_pos h8, List.getElem?_set_self hj, nth_eq hj] at e3
   exact Option.some.inj e3
 · have e1 : (b.set j x).take 8 = b.take 8 := by rw [List.take_set_of_le (by omega)]
   have e2 : (b.set j x).drop 8 = (b.drop 8).set (j - 8) x := by rw [List.drop_set, if_neg h8]
   rw [e1, e2]
   have hd : (b.drop 8).length = b.length - 8 := List.length_drop
   obtain ⟨p, q, w, w', h1, h2, h3, h4, h5⟩ := wordsOf_set (b.drop 8) (j - 8) x (fun z hz => hB z (List.mem_of_mem_drop hz)) hx (by omega) (by
    rw [nth_get (by omega), List.getElem_drop]
    rw [nth_get hj] at hne
    have : 8 + (j - 8) = j := by omega
    simpa only [this] using hne)
   exact ⟨leW (b.take 8) :: p, q, w, w', by rw [h1]; rfl, by rw [h2]; rfl, h3, h4, h5⟩
termination_by b.length
decreasing_by
  rw [List.length_drop]
  omega
theorem hash_set (label b : List Int) (j : Nat) (x : Int) (hB : Bytes b) (hx : 0 ≤ x ∧ x < 256) (hj : j < b.length) (hne : nth b j ≠ x) : hashB label b ≠ hashB label (b.set j x) := by
 intro h
 obtain ⟨p, q, w, w', h1, h2, h3, h4, h5⟩ := wordsOf_set b j x hB hx hj hne
 unfold hashB sumU at h
 rw [List.length_set] at h
 have hl : ((wordsOf b).map asI ++ [(b.length : Int)]).length = ((wordsOf (b.set j x)).map asI ++ [(b.length : Int)]).length := by
  rw [h1, h2]; simp
 rw [hl] at h
 have h6 := mixU_left (foldU_range (mixU_range _ _)) (foldU_range (mixU_range _ _)) h
 rw [h1, h2] at h6
 simp only [List.map_append, List.map_cons, List.append_assoc, List.cons_append] at h6
 have h7 := foldU_one (mixU_range _ _) h6
 rw [wrap_asI h4, wrap_asI h5] at h7
 exact h3 h7
end Go.Proofs.Ytahaplbdhgfobaa.Eng
set_option linter.unusedVariables false
set_option linter.unusedSimpArgs false
namespace Go.Proofs.Ytahaplbdhgfobaa.Eng
theorem flipB_all : ∀ k : _root_.Fin 8, ∀ a : _root_.Fin 256, flipB ((a.val : Nat) : Int) k.val ≠ ((a.val : Nat) : Int) := by decide +kernel
theorem flipB_ne {a : Int} (ha : 0 ≤ a ∧ a < 256) {k : Nat} (hk : k < 8) : flipB a k ≠ a := by
 have := flipB_all ⟨k, hk⟩ ⟨a.toNat, by omega⟩
 simp only at this
 rwa [show ((a.toNat : Nat) : Int) = a by omega] at this
end Go.Proofs.Ytahaplbdhgfobaa.Eng
set_option linter.unusedVariables false
set_option linter.unusedSimpArgs false
set_option maxRecDepth 8000
namespace Go.Proofs.Ytahaplbdhgfobaa.Eng
theorem FRel.inc {R0 R : Objs} {m : List (Int × Value)} {fs : List (Int × Fi)} (h : FRel R0 m fs) (hi : ∀ g, Sat g R → Sat g R0) : FRel R m fs := by
 induction h with
 | nil => exact .nil
 | cons h1 _ ih =>
  obtain ⟨a, c, h2, h3, h4⟩ := h1
  exact .cons ⟨a, c, h2, h3.inc hi, h4⟩ ih
theorem DkI.inc {R0 R : Objs} {D : Dk} {mx : MapX} (h : DkI R0 D mx) (hi : ∀ g, Sat g R → Sat g R0) : DkI R D mx := ⟨⟨h.di.rel.inc hi, h.di.nd⟩, h.ok, h.room, h.left, h.used⟩
end Go.Proofs.Ytahaplbdhgfobaa.Eng
set_option linter.unusedVariables false
set_option linter.unusedSimpArgs false
set_option maxRecDepth 8000
namespace Go.Proofs.Ytahaplbdhgfobaa.Eng
theorem read_on {D : Dk} (h : D.off = false) {k : Int} (hk : 0 ≤ k ∧ k < 64) : readD D k = ((getF D.fs k).bs, 0) := by
 unfold readD
 rw [if_neg (by omega), if_neg (by rw [h]; simp)]
end Go.Proofs.Ytahaplbdhgfobaa.Eng
set_option linter.unusedVariables false
set_option linter.unusedSimpArgs false
set_option maxRecDepth 8000
namespace Go.Proofs.Ytahaplbdhgfobaa.Eng
theorem flipB_two : ∀ k : _root_.Fin 8, ∀ a : _root_.Fin 256, flipB (flipB ((a.val : Nat) : Int) k.val) k.val = ((a.val : Nat) : Int) := by decide +kernel
theorem flipB_twice {a : Int} (ha : 0 ≤ a ∧ a < 256) {k : Nat} (hk : k < 8) : flipB (flipB a k) k = a := by
 have := flipB_two ⟨k, hk⟩ ⟨a.toNat, by omega⟩
 simp only at this
 rwa [show ((a.toNat : Nat) : Int) = a by omega] at this
theorem RdI.inc {R0 R : Objs} {M : Rd} {vs : List Value} (h : RdI R0 M vs) (hi : ∀ g, Sat g R → Sat g R0) : RdI R M vs :=
 ⟨h.lenV, h.lenB, h.lenF, fun n hn => by obtain ⟨a, c, h1, h2, h3, h4⟩ := h.file n hn; exact ⟨a, c, h1, h2.inc hi, h3, h4⟩, h.room, h.used, h.plan, h.firm⟩
theorem set_nth_self {α : Type} [Inhabited α] {l : List α} {k : Nat} (h : k < l.length) : l.set k (nth l k) = l := by
 refine List.ext_getElem? fun i => ?_
 rw [List.getElem?_set]
 split
 · rename_i e
   subst e
   first | exact (nth_eq h).symm | (rw [if_pos h]; exact (nth_eq h).symm)
 · rfl
theorem rotR_twice {M : Rd} {vs : List Value} {R : Objs} (h : RdI R M vs) (n bit : Int) : rotR (rotR M n bit).2 n bit = ((rotR M n bit).1, M) := by
 unfold rotR
 by_cases h1 : ¬ (0 ≤ n ∧ n < 64) ∨ bit < 0 ∨ bit.toNat / 8 ≥ (nth M.B n.toNat).length
 · rw [if_pos h1]; simp only; rw [if_pos h1]
 rw [if_neg h1]
 simp only
 have hn : n.toNat < M.B.length := by rw [h.lenB]; omega
 rw [nth_setE hn, if_pos rfl, List.length_set, if_neg h1, List.set_set, List.set_set]
 obtain ⟨a, c, _, _, _, hB⟩ := h.file n.toNat (by omega)
 rw [nth_setE (by omega), if_pos rfl, flipB_twice (hB _ (nth_mem (by omega))) (by omega), set_nth_self (by omega), set_nth_self hn]
theorem rot_hash {label x : List Int} (hB : Bytes x) {k j w : Nat} (hk : k < x.length) (hj : j < 8) (hw : 0 < w) : hashB label (((x.set k (flipB (nth x k) j)).drop k).take w) ≠ hashB label ((x.drop k).take w) := by
 have hr := flipB_range (nth x k) j
 have e : ((x.set k (flipB (nth x k) j)).drop k).take w = ((x.drop k).take w).set 0 (flipB (nth x k) j) := by
  rw [List.drop_set, if_neg (by omega), Nat.sub_self, List.take_set]
 rw [e]
 have hl : 0 < ((x.drop k).take w).length := by rw [List.length_take, List.length_drop]; omega
 have h0 : nth ((x.drop k).take w) 0 = nth x k := by
  unfold nth
  rw [List.getD_eq_getElem?_getD, List.getD_eq_getElem?_getD, List.getElem?_take, if_pos hw, List.getElem?_drop, Nat.add_zero]
 refine fun q => hash_set label ((x.drop k).take w) 0 (flipB (nth x k) j) (fun y hy => hB y (List.mem_of_mem_drop (List.mem_of_mem_take hy))) hr hl ?_ q.symm
 rw [h0]
 exact fun q => flipB_ne (hB _ (nth_mem hk)) hj q.symm
theorem rotR_ok {M : Rd} {n bit : Int} (h : (rotR M n bit).1 = 0) : (0 ≤ n ∧ n < 64) ∧ 0 ≤ bit ∧ bit.toNat / 8 < (nth M.B n.toNat).length ∧ (rotR M n bit).2.B = M.B.set n.toNat ((nth M.B n.toNat).set (bit.toNat / 8) (flipB (nth (nth M.B n.toNat) (bit.toNat / 8)) (7 - bit.toNat % 8))) ∧ (rotR M n bit).2.off = M.off := by
 unfold rotR at h ⊢
 by_cases h1 : ¬ (0 ≤ n ∧ n < 64) ∨ bit < 0 ∨ bit.toNat / 8 ≥ (nth M.B n.toNat).length
 · rw [if_pos h1] at h; cases h
 · rw [if_neg h1]; exact ⟨by omega, by omega, by omega, rfl, rfl⟩
theorem hash_q (O : Objs) (label b : List Int) (a : Option Addr) (c : Nat) (hB : Bytes label) (hb : Bytes b) (hll : label.length ≤ 1000000000000) (hlen : b.length ≤ 1000000000000) (hl : Src O 1 (.slice a b.length c) b.length (b.map B8)) :
  Spec Try.prog true 32 #[.string (bstr label), .slice a b.length c] O fun v O' => v = U (hashB label b) ∧ O' = O :=
 Spec.frame0 (hash_ok _ label b a c hB hb hll hlen hl.roh)
structure RoS where
 i : Nat
 D : Dk
 mx : MapX
 X : Objs
theorem diskRots_ok (O : Objs) (room file bit : Int) (l : List Int) (al : Option Addr) (cl : Nat) (hr64 : In64 room) (hf64 : In64 file) (hb64 : In64 bit) (hll : Short l) (h64 : ∀ x ∈ l, In64 x)
  (hl : Src O 1 (.slice al l.length cl) l.length (l.map I)) :
  Spec Try.prog false 10 #[I room, .slice al l.length cl, I file, I bit] O fun v _ => v = .bool true := by
 have hff := around_range (n := file) (m := 4) (by decide)
 refine Spec.enter (args := [_, _, _, _]) (m := 154) Try.func10 rfl rfl (by decide +kernel) fun h0 => ?_
 refine WX.seq ?_
 refine WX.region rfl ?_
 refine WXL.assign Met.none rfl ?_
 refine WXL.nil ?_
 refine Fin.then_normal ?_
 refine WX.seq ?_
 refine WX.region rfl ?_
 refine WXL.move Met.none rfl ?_
 refine WXL.move Met.none rfl ?_
 refine WXL.cl (O1 := _) Met.none rfl (fnOk_of Try.func27 (by decide +kernel)) rfl (fun _ h => h) (made_ok O room l al cl hr64 hll h64 hl) (fun v O' hp => ?_)
 obtain ⟨d, bm, D, mx, r, rb, rf, M, vs, N, rfl, rfl, hT⟩ := hp
 refine WXL.move Met.none rfl ?_
 refine WXL.extract Met.none rfl rfl ?_
 refine WXL.extract Met.none rfl rfl ?_
 refine WXL.assign Met.none rfl ?_
 refine WXL.assign Met.none rfl ?_
 refine WXL.nil ?_
 refine Fin.then_normal ?_
 refine WX.seq ?_
 refine WX.seq ?_
 refine WX.region rfl ?_
 refine WXL.move Met.none rfl ?_
 refine WXL.eqNilP Met.none rfl rfl Try.underlying23 ?_
 refine WXL.move Met.none rfl ?_
 refine WXL.split (d := 28) rfl (fun hg28 => ?_) (fun hg28 => ?_)
 · try simp only [cnd] at hg28
   exact (by simp at hg28)
 · try simp only [cnd] at hg28
   refine WXL.move (Met.some rfl rfl rfl) rfl ?_
   refine WXL.eqNilP (Met.some rfl rfl rfl) rfl rfl Try.underlying42 ?_
   refine WXL.pick_f Met.none rfl rfl ?_
   refine WXL.nil ?_
   refine Fin.then_normal ?_
   refine WX.cond rfl (fun hc0 => ?_) (fun hc0 => ?_)
   · try simp only [cnd] at hc0
     exact (by simp at hc0)
   · try simp only [cnd] at hc0
     refine WX.skip ?_
     refine Fin.then_normal ?_
     refine WX.seq ?_
     refine WX.region rfl ?_
     refine WXL.move Met.none rfl ?_
     refine WXL.cl (O1 := _) Met.none rfl (fnOk_of Try.func12 (by decide +kernel)) rfl (fun _ h => h) (around_ok _ file 4 hf64 (by decide)) (fun v O' hp => ?_)
     obtain ⟨rfl, hO⟩ := hp
     subst O'
     refine WXL.assign Met.none rfl ?_
     refine WXL.nil ?_
     refine Fin.then_normal ?_
     refine WX.seq ?_
     obtain ⟨f, hf⟩ : ∃ f : Nat, around file 4 = (f : Int) := ⟨(around file 4).toNat, by omega⟩
     rw [hf]
     have hf4 : f < 4 := by omega
     obtain ⟨ax, cx, hvx, hrx0, hnx, hBx⟩ := hT.rd.file f (by omega)
     have hv : vs[f]? = some (.slice ax (nth M.B f).length cx) := by rw [← hvx]; exact nth_eq (by rw [hT.rd.lenV]; omega)
     have hxl := hT.rd.len (n := f) (by omega)
     obtain ⟨x, hx⟩ : ∃ x, x = nth M.B f := ⟨_, rfl⟩
     rw [← hx] at hv hrx0 hBx hxl
     refine WX.region rfl ?_
     refine WXL.move Met.none rfl ?_
     refine WXL.move Met.none rfl ?_
     refine WXL.move Met.none rfl ?_
     refine WXL.nilCheck Met.none rfl ?_
     first | refine WXL.fieldAddr Met.none rfl Try.underlying58 rfl sz22 rfl ?_ | refine WXL.faS Met.none rfl Try.underlying58 rfl sz22 ?_
     first | refine WXL.ld Met.none rfl agg22 ?_ | refine WXL.ldS Met.none rfl agg22 ?_
     refine WXL.move Met.none rfl ?_
     first | refine WXL.ix Met.none rfl rfl elem22 sz27 ?_ | refine WXL.ixS Met.none rfl rfl elem22 sz27 ?_
     first | refine WXL.ld Met.none rfl agg27 ?_ (hv := hv) | refine WXL.ldS Met.none rfl agg27 ?_ (hv := hv)
     refine WXL.len Met.none rfl Try.underlying27 ?_
     refine WXL.bin Met.none rfl rfl bvM ?_
     refine WXL.bin Met.none rfl rfl bvA ?_
     refine WXL.cl (O1 := _) Met.none rfl (fnOk_of Try.func12 (by decide +kernel)) rfl (fun _ h => h) (around_ok _ bit (8 * (x.length : Int) + 2) hb64 (by omega)) (fun v O' hp => ?_)
     obtain ⟨rfl, hO⟩ := hp
     subst O'
     refine WXL.buildSlice (c := [_, _]) Met.none rfl elem33 sz3 zero3 (by decide) (by decide) rfl rfl rfl rfl (fun b47 => ?_)
     refine WXL.assign Met.none rfl ?_
     refine WXL.nil ?_
     refine Fin.then_normal ?_
     refine WX.seq ?_
     refine WX.seq ?_
     have hn2 := around_range (n := bit) (m := 8 * (x.length : Int) + 2) (by omega)
     obtain ⟨n2, hn2e⟩ : ∃ n2, n2 = around bit (8 * (x.length : Int) + 2) := ⟨_, rfl⟩
     rw [← hn2e] at hn2 ⊢
     have hnum : ∀ i, i < 2 → ([I bit, I n2] : List Value)[i]? = some (I (nth [bit, n2] i)) ∧ In64 (nth [bit, n2] i) := fun i hi => by
      have : i = 0 ∨ i = 1 := by omega
      rcases this with rfl | rfl
      · exact ⟨rfl, hb64⟩
      · exact ⟨rfl, by show In64 n2; unfold In64; omega⟩
     refine WX.region rfl ?_
     refine WXL.assign Met.none rfl ?_
     refine WXL.nil ?_
     refine Fin.then_normal ?_
     refine WX.block ?_
     refine WX.re (O' := dkO d bm D mx (rdO r rb rf M vs ((b47, ⟨1, false, [I bit, I n2]⟩) :: (N ++ O)))) ?_
     refine WX.loop (fun q : RoS => [(9, Ptr d 0), (10, Ptr r 0), (11, I (f : Int)), (12, Row b47 0 2 2), (13, I (q.i : Int))]) (fun q => dkO d bm q.D q.mx (rdO r rb rf M vs ((b47, ⟨1, false, [I bit, I n2]⟩) :: (q.X ++ (N ++ O))))) (fun q => q.i ≤ 2 ∧ DkI (q.X ++ N) q.D q.mx ∧ Sim q.D M) (fun q => 2 - q.i) ⟨0, D, mx, []⟩ ⟨Nat.zero_le _, hT.dk, hT.sim⟩ (fun s hs => hs.tl [] 0) (fun q hq => ?_)
     obtain ⟨i, D0, mx0, X⟩ := q
     obtain ⟨hi, hI0, hS0⟩ := hq
     simp only at hi hI0 hS0
     dsimp only
     obtain ⟨T, hT2⟩ : ∃ T : Objs, T = (b47, (⟨1, false, [I bit, I n2]⟩ : Ent)) :: (X ++ (N ++ O)) := ⟨_, rfl⟩
     rw [← hT2]
     have hkT : Knows T b47 ⟨1, false, [I bit, I n2]⟩ := by rw [hT2]; exact Knows.at 0 rfl
     have hiT : ∀ Q : Nat × Ent → Bool, (X ++ N).countP Q ≤ T.countP Q := fun Q => by rw [hT2]; simp only [List.countP_append, List.countP_cons]; omega
     refine WX.seq ?_
     refine WX.seq ?_
     refine WX.region rfl ?_
     refine WXL.move Met.none rfl ?_
     refine WXL.bin Met.none rfl rfl rfl ?_
     refine WXL.nil ?_
     refine Fin.then_normal ?_
     refine WX.cond rfl (fun hc1 => ?_) (fun hc1 => ?_)
     · try simp only [cnd] at hc1
       refine WX.skip ?_
       refine Fin.then_normal ?_
       refine WX.seq ?_
       refine WX.block ?_
       refine WX.seq ?_
       have hi2 : i < 2 := by omega
       obtain ⟨nv, hnv⟩ := hnum i hi2
       obtain ⟨bi, hbi⟩ : ∃ bi, bi = nth [bit, n2] i := ⟨_, rfl⟩
       rw [← hbi] at nv hnv
       refine WX.region rfl ?_
       refine WXL.move Met.none rfl ?_
       refine WXL.cl (O1 := rdO r rb rf M vs (dkO d bm D0 mx0 T)) Met.none rfl (fnOk_of Try.func33 (by decide +kernel)) rfl sub_ (rcopy_ok _ r rb rf M vs hT.rd (fun g hg => hg.sub (by intro Q; have := hiT Q; simp only [List.countP_append, List.countP_cons] at this ⊢; omega))) (fun v O' hp => ?_)
       obtain ⟨r2, rb2, rf2, vs2, N2, rfl, rfl, hM2⟩ := hp
       refine WXL.assign Met.none rfl ?_
       refine WXL.nil ?_
       refine Fin.then_normal ?_
       refine WX.seq ?_
       refine WX.re (O' := dkO d bm D0 mx0 (T ++ rdO r2 rb2 rf2 M vs2 (rdO r rb rf M vs N2))) ?_
       refine WX.region rfl ?_
       refine WXL.move Met.none rfl ?_
       refine WXL.move Met.none rfl ?_
       refine WXL.move Met.none rfl ?_
       refine WXL.move Met.none rfl ?_
       first | refine WXL.ix Met.none rfl rfl elem33 sz3 ?_ | refine WXL.ixS Met.none rfl rfl elem33 sz3 ?_
       first | refine WXL.ld Met.none rfl agg3 ?_ (hv := nv) (hk := (fun g hg => hkT g (hg.sub (by intro Q; simp only [List.countP_append, List.countP_cons]; omega)))) | refine WXL.ldS Met.none rfl agg3 ?_ (hv := nv)
       refine WXL.cl (O1 := _) Met.none rfl (fnOk_of Try.func34 (by decide +kernel)) rfl (fun _ h => h) (rot_ok _ d bm D0 mx0 (f : Int) bi hI0 (fun g hg => hg.sub (by intro Q; have := hiT Q; simp only [List.countP_append, List.countP_cons] at this ⊢; omega)) hnv) (fun v O' hp => ?_)
       obtain ⟨mx1, N3, rfl, rfl, hD1⟩ := hp
       refine WXL.assign Met.none rfl ?_
       refine WXL.nil ?_
       refine Fin.then_normal ?_
       refine WX.seq ?_
       refine WX.seq ?_
       obtain ⟨e, he⟩ : ∃ e, e = (rotD D0 (f : Int) bi).1 := ⟨_, rfl⟩
       obtain ⟨D1, hD1e⟩ : ∃ D1, D1 = (rotD D0 (f : Int) bi).2 := ⟨_, rfl⟩
       obtain ⟨s1, s2⟩ := sim_rot hS0 hI0 (f : Int) bi
       rw [← he] at s1
       rw [← hD1e] at s2 hD1
       rw [← he, ← hD1e]
       refine WX.re (O' := rdO r2 rb2 rf2 M vs2 (T ++ dkO d bm D1 mx1 (rdO r rb rf M vs (N3 ++ N2)))) ?_
       refine WX.region rfl ?_
       refine WXL.move Met.none rfl ?_
       refine WXL.move Met.none rfl ?_
       refine WXL.move Met.none rfl ?_
       refine WXL.move Met.none rfl ?_
       refine WXL.move Met.none rfl ?_
       first | refine WXL.ix Met.none rfl rfl elem33 sz3 ?_ | refine WXL.ixS Met.none rfl rfl elem33 sz3 ?_
       first | refine WXL.ld Met.none rfl agg3 ?_ (hv := nv) (hk := (fun g hg => hkT g (hg.sub (by intro Q; simp only [List.countP_append, List.countP_cons]; omega)))) | refine WXL.ldS Met.none rfl agg3 ?_ (hv := nv)
       refine WXL.cl (O1 := _) Met.none rfl (fnOk_of Try.func35 (by decide +kernel)) rfl (fun _ h => h) (rrot_ok _ r2 rb2 rf2 M vs2 (f : Int) bi hM2 (fun g hg => hg.sub (by intro Q; simp only [List.countP_append, List.countP_cons]; omega)) hnv) (fun v O' hp => ?_)
       obtain ⟨vs3, N4, rfl, rfl, hM3⟩ := hp
       rw [s1]
       refine WXL.bin Met.none rfl rfl rfl ?_
       refine WXL.move Met.none rfl ?_
       refine WXL.split (d := 70) rfl (fun hg70 => ?_) (fun hg70 => ?_)
       · try simp only [cnd] at hg70
         exact (by simp at hg70)
       · try simp only [cnd] at hg70
         refine WXL.move (Met.some rfl rfl rfl) rfl ?_
         refine WXL.move (Met.some rfl rfl rfl) rfl ?_
         refine WXL.cl (O1 := dkO d bm D1 mx1 (rdO r2 rb2 rf2 (rotR M (f : Int) bi).2 vs3 (T ++ rdO r rb rf M vs (N4 ++ (N3 ++ N2))))) (Met.some rfl rfl rfl) rfl (fnOk_of Try.func26 (by decide +kernel)) rfl sub_ (same_ok _ d bm D1 mx1 r2 rb2 rf2 (rotR M (f : Int) bi).2 vs3 (hD1.inc (R := T ++ rdO r rb rf M vs (N4 ++ (N3 ++ N2))) fun g hg => hg.sub (by intro Q; have := hiT Q; simp only [List.countP_append, List.countP_cons] at this ⊢; omega)) (hM3.inc (R := T ++ rdO r rb rf M vs (N4 ++ (N3 ++ N2))) fun g hg => hg.sub (by intro Q; simp only [List.countP_append, List.countP_cons]; omega)) s2 (fun Q => Nat.le_refl _)) (fun v O' hp => ?_)
         obtain ⟨up, rfl, hup, N5, rfl⟩ := hp
         refine WXL.not (Met.some rfl rfl rfl) rfl ?_
         refine WXL.pick_f Met.none rfl rfl ?_
         refine WXL.nil ?_
         refine Fin.then_normal ?_
         refine WX.cond rfl (fun hc2 => ?_) (fun hc2 => ?_)
         · try simp only [cnd] at hc2
           exact absurd hup (by simpa using hc2)
         · try simp only [cnd] at hc2
           refine WX.skip ?_
           refine Fin.then_normal ?_
           refine WX.seq ?_
           refine WX.seq ?_
           refine WX.re (O' := rdO r rb rf M vs (dkO d bm D1 mx1 (T ++ (N5 ++ (N4 ++ (N3 ++ N2)))))) ?_
           refine WX.region rfl ?_
           refine WXL.move Met.none rfl ?_
           refine WXL.bin Met.none rfl rfl rfl ?_
           refine WXL.move Met.none rfl ?_
           refine WXL.split (d := 78) rfl (fun hg78 => ?_) (fun hg78 => ?_)
           · try simp only [cnd] at hg78
             refine WXL.move (Met.some rfl rfl rfl) rfl ?_
             refine WXL.nilCheck (Met.some rfl rfl rfl) rfl ?_
             first | refine WXL.fieldAddr (Met.some rfl rfl rfl) rfl Try.underlying58 rfl sz4 rfl ?_ | refine WXL.faS (Met.some rfl rfl rfl) rfl Try.underlying58 rfl sz4 ?_
             first | refine WXL.ld (Met.some rfl rfl rfl) rfl agg4 ?_ | refine WXL.ldS (Met.some rfl rfl rfl) rfl agg4 ?_
             refine WXL.not (Met.some rfl rfl rfl) rfl ?_
             refine WXL.pick_t Met.none rfl rfl ?_
             refine WXL.nil ?_
             refine Fin.then_normal ?_
             refine WX.cond rfl (fun hc3 => ?_) (fun hc3 => ?_)
             · try simp only [cnd] at hc3
               have he0 : e = 0 := by omega
               obtain ⟨p1, p2, p3, p4, p5⟩ := rotR_ok (s1.trans he0)
               rw [Int.toNat_natCast, ← hx] at p3 p4
               obtain ⟨k, hk⟩ : ∃ k, k = bi.toNat / 8 := ⟨_, rfl⟩
               rw [← hk] at p3 p4
               have hoM : M.off = false := by
                cases hq : M.off with
                | false => rfl
                | true => rw [hq] at hc3; simp at hc3
               obtain ⟨j, hj⟩ : ∃ j, j = 7 - bi.toNat % 8 := ⟨_, rfl⟩
               rw [← hj] at p4
               obtain ⟨y, hy⟩ : ∃ y, y = x.set k (flipB (nth x k) j) := ⟨_, rfl⟩
               have hyl : y.length = x.length := by rw [hy]; exact List.length_set
               have hrd : readD D1 (f : Int) = (y, 0) := by
                have h3 := s2.file f (by omega)
                have h4 : D1.off = false := by rw [← s2.off, p5]; exact hoM
                rw [read_on h4 (by omega), h3]
                show (nth (rotR M (f : Int) bi).2.B f, (0 : Int)) = _
                rw [p4, nth_setE (by rw [hT.rd.lenB]; omega), if_pos rfl, hy]
               have hyB : Bytes y := fun z hz => by
                rw [hy] at hz
                rcases List.mem_or_eq_of_mem_set hz with q | q
                · exact hBx z q
                · rw [q]; exact flipB_range _ _
               have hq8 : bi.tdiv 8 = (k : Int) := by rw [Int.tdiv_eq_ediv_of_nonneg p2]; omega
               obtain ⟨w, hw⟩ : ∃ w, w = min x.length (k + 8) := ⟨_, rfl⟩
               have hhash := rot_hash (label := [114, 111, 116]) hBx (k := k) (j := j) (w := w - k) p3 (by omega) (by omega)
               rw [← hy] at hhash
               refine WX.seq ?_
               refine WX.region rfl ?_
               refine WXL.move Met.none rfl ?_
               refine WXL.move Met.none rfl ?_
               first | refine WXL.ix Met.none rfl rfl elem33 sz3 ?_ | refine WXL.ixS Met.none rfl rfl elem33 sz3 ?_
               first | refine WXL.ld Met.none rfl agg3 ?_ (hv := nv) (hk := (fun g hg => hkT g (hg.sub (by intro Q; simp only [List.countP_append, List.countP_cons]; omega)))) | refine WXL.ldS Met.none rfl agg3 ?_ (hv := nv)
               refine WXL.qu Met.none rfl rfl ?_ (hr := (show IntKind.wrap .i64 (bi.tdiv 8) = ((k : Nat) : Int) by rw [hq8]; exact wrap_i64 (by omega) (by omega)))
               refine WXL.assign Met.none rfl ?_
               refine WXL.nil ?_
               refine Fin.then_normal ?_
               refine WX.seq ?_
               refine WX.region rfl ?_
               refine WXL.move Met.none rfl ?_
               refine WXL.move Met.none rfl ?_
               refine WXL.cl (O1 := dkO d bm D1 mx1 (rdO r rb rf M vs (T ++ (N5 ++ (N4 ++ (N3 ++ N2)))))) Met.none rfl (fnOk_of Try.func17 (by decide +kernel)) rfl sub_ (diskRead_ok _ d bm D1 mx1 (f : Int) hD1 (fun g hg => hg.sub (by intro Q; have := hiT Q; simp only [List.countP_append, List.countP_cons] at this ⊢; omega))) (fun v O' hp => ?_)
               obtain ⟨a1, c1, G1, rfl, hG1, rfl⟩ := hp
               rw [hrd] at hG1 ⊢
               dsimp only at hG1 ⊢
               rw [hyl] at hG1 ⊢
               obtain ⟨b1, rfl, rfl, hcl1⟩ : ∃ b1, a1 = some ⟨b1, 0, none⟩ ∧ G1 = [(b1, ⟨1, false, y.map B8⟩)] ∧ (y.map B8).length = x.length * 1 := by
                rcases hG1 with ⟨_, h0, _⟩ | h
                · omega
                · exact h
               refine WXL.move Met.none rfl ?_
               refine WXL.extract Met.none rfl rfl ?_
               refine WXL.extract Met.none rfl rfl ?_
               refine WXL.assign Met.none rfl ?_
               refine WXL.assign Met.none rfl ?_
               refine WXL.nil ?_
               refine Fin.then_normal ?_
               refine WX.seq ?_
               refine WX.seq ?_
               refine WX.re (O' := rdO r rb rf M vs ((b1, ⟨1, false, y.map B8⟩) :: (dkO d bm D1 mx1 (T ++ (N5 ++ (N4 ++ (N3 ++ N2))))))) ?_
               refine WX.region rfl ?_
               refine WXL.move Met.none rfl ?_
               refine WXL.bin Met.none rfl rfl rfl ?_
               refine WXL.move Met.none rfl ?_
               refine WXL.split (d := 98) rfl (fun hg98 => ?_) (fun hg98 => ?_)
               · try simp only [cnd] at hg98
                 exact (by simp at hg98)
               · try simp only [cnd] at hg98
                 refine WXL.move (Met.some rfl rfl rfl) rfl ?_
                 refine WXL.len (Met.some rfl rfl rfl) rfl Try.underlying27 ?_
                 refine WXL.move (Met.some rfl rfl rfl) rfl ?_
                 refine WXL.nilCheck (Met.some rfl rfl rfl) rfl ?_
                 first | refine WXL.fieldAddr (Met.some rfl rfl rfl) rfl Try.underlying58 rfl sz22 rfl ?_ | refine WXL.faS (Met.some rfl rfl rfl) rfl Try.underlying58 rfl sz22 ?_
                 first | refine WXL.ld (Met.some rfl rfl rfl) rfl agg22 ?_ | refine WXL.ldS (Met.some rfl rfl rfl) rfl agg22 ?_
                 refine WXL.move (Met.some rfl rfl rfl) rfl ?_
                 first | refine WXL.ix (Met.some rfl rfl rfl) rfl rfl elem22 sz27 ?_ | refine WXL.ixS (Met.some rfl rfl rfl) rfl rfl elem22 sz27 ?_
                 first | refine WXL.ld (Met.some rfl rfl rfl) rfl agg27 ?_ (hv := hv) | refine WXL.ldS (Met.some rfl rfl rfl) rfl agg27 ?_ (hv := hv)
                 refine WXL.len (Met.some rfl rfl rfl) rfl Try.underlying27 ?_
                 refine WXL.bin (Met.some rfl rfl rfl) rfl rfl rfl ?_
                 refine WXL.pick_f Met.none rfl rfl ?_
                 refine WXL.nil ?_
                 refine Fin.then_normal ?_
                 refine WX.cond rfl (fun hc4 => ?_) (fun hc4 => ?_)
                 · try simp only [cnd] at hc4
                   exact (by simp at hc4)
                 · try simp only [cnd] at hc4
                   refine WX.skip ?_
                   refine Fin.then_normal ?_
                   refine WX.seq ?_
                   refine WX.region rfl ?_
                   refine WXL.move Met.none rfl ?_
                   refine WXL.len Met.none rfl Try.underlying27 ?_
                   refine WXL.move Met.none rfl ?_
                   refine WXL.bin Met.none rfl rfl bvA ?_
                   skip
                   refine WXL.min Met.none rfl rfl ?_
                   refine WXL.assign Met.none rfl ?_
                   refine WXL.nil ?_
                   refine Fin.then_normal ?_
                   refine WX.seq ?_
                   obtain ⟨bx, offx, ex, rfl, hkx, hszx, hlx, hcx⟩ : ∃ bx offx ex, ax = some ⟨bx, offx, none⟩ ∧ Knows N bx ex ∧ ex.sz = 1 ∧ offx + x.length * 1 ≤ ex.c.length ∧ (ex.c.drop offx).take (x.length * 1) = x.map B8 := by
                    rcases hrx0 with ⟨_, h0, _⟩ | ⟨bx, offx, ex, h1, h2, h3, h4, h5⟩
                    · omega
                    · exact ⟨bx, offx, ex, h1, h2, h3, h4, h5⟩
                   obtain ⟨szx, rox, csx⟩ := ex
                   simp only at hszx hlx hcx
                   subst hszx
                   have hwk : (w : Int) = min (x.length : Int) ((k : Int) + 8) := by omega
                   have hsrc : ∀ {R : Objs} {b off c : Nat} {ent : Ent} {z : List Int}, Knows R b ent → off + z.length * 1 ≤ ent.c.length → (ent.c.drop off).take (z.length * 1) = z.map B8 → z.length = x.length → Src R 1 (.slice (some ⟨b, off + k * 1, none⟩) ((z.drop k).take (w - k)).length c) ((z.drop k).take (w - k)).length (((z.drop k).take (w - k)).map B8) := fun {R b off c ent z} h1 h2 h3 h4 => by
                    have hl : ((z.drop k).take (w - k)).length = w - k := by rw [List.length_take, List.length_drop]; omega
                    refine Src.of h1 (by rw [hl]; omega) ?_
                    rw [hl, List.map_take, List.map_drop, ← h3, Nat.mul_one, Nat.mul_one, Nat.mul_one, ← List.drop_drop, List.drop_take, List.take_take, Nat.min_eq_left (by omega)]
                   have hl1 : ((y.drop k).take (w - k)).length = w - k := by rw [List.length_take, List.length_drop]; omega
                   have hl2 : ((x.drop k).take (w - k)).length = w - k := by rw [List.length_take, List.length_drop]; omega
                   refine WX.draw rfl ?_
                   refine WXL.move Met.none rfl ?_
                   refine WXL.move Met.none rfl ?_
                   refine WXL.move Met.none rfl ?_
                   refine WXL.mid (m := k) (m2 := w) Met.none rfl rfl rfl elem27 sz5 rfl at_ rfl ?_
                   rw [← hl1]
                   refine WXL.cl (O1 := _) Met.none rfl (fnOk_of Try.func32 (by decide +kernel)) rfl (fun _ h => h) (hash_q _ [114, 111, 116] ((y.drop k).take (w - k)) (some ⟨b1, 0 + k * 1, none⟩) _ (by intro z hz; simp at hz; omega) (fun z hz => hyB z (List.mem_of_mem_drop (List.mem_of_mem_take hz))) (by decide) (by rw [hl1]; omega) (hsrc (ent := ⟨1, false, y.map B8⟩) (Knows.mem (by simp)) (by show 0 + y.length * 1 ≤ (y.map B8).length; rw [List.length_map]; omega) (by show ((y.map B8).drop 0).take _ = _; rw [List.drop_zero, List.take_of_length_le (by rw [List.length_map]; omega)]) hyl)) (fun v O' hp => ?_)
                   obtain ⟨rfl, hO⟩ := hp
                   subst O'
                   refine WXL.move Met.none rfl ?_
                   refine WXL.nilCheck Met.none rfl ?_
                   first | refine WXL.fieldAddr Met.none rfl Try.underlying58 rfl sz22 rfl ?_ | refine WXL.faS Met.none rfl Try.underlying58 rfl sz22 ?_
                   first | refine WXL.ld Met.none rfl agg22 ?_ | refine WXL.ldS Met.none rfl agg22 ?_
                   refine WXL.move Met.none rfl ?_
                   first | refine WXL.ix Met.none rfl rfl elem22 sz27 ?_ | refine WXL.ixS Met.none rfl rfl elem22 sz27 ?_
                   first | refine WXL.ld Met.none rfl agg27 ?_ (hv := hv) | refine WXL.ldS Met.none rfl agg27 ?_ (hv := hv)
                   refine WXL.move Met.none rfl ?_
                   refine WXL.move Met.none rfl ?_
                   refine WXL.mid (m := k) (m2 := w) Met.none rfl rfl rfl elem27 sz5 rfl (fun g hg => hkx g (hg.sub (by intro Q; rw [hT2]; simp only [List.countP_append, List.countP_cons]; omega))) rfl ?_
                   rw [← hl2]
                   refine WXL.cl (O1 := _) Met.none rfl (fnOk_of Try.func32 (by decide +kernel)) rfl (fun _ h => h) (hash_q _ [114, 111, 116] ((x.drop k).take (w - k)) (some ⟨bx, offx + k * 1, none⟩) _ (by intro z hz; simp at hz; omega) (fun z hz => hBx z (List.mem_of_mem_drop (List.mem_of_mem_take hz))) (by decide) (by rw [hl2]; omega) (hsrc (fun g hg => hkx g (hg.sub (by intro Q; rw [hT2]; simp only [List.countP_append, List.countP_cons]; omega))) hlx hcx rfl)) (fun v O' hp => ?_)
                   obtain ⟨rfl, hO⟩ := hp
                   subst O'
                   refine WXL.bin Met.none rfl rfl rfl ?_
                   refine WXL.nil ?_
                   refine Fin.then_normal ?_
                   refine WX.cond rfl (fun hc5 => ?_) (fun hc5 => ?_)
                   · try simp only [cnd] at hc5
                     exact (hhash (by rw [hl2] at hc5; exact hc5)).elim
                   · try simp only [cnd] at hc5
                     refine WX.skip ?_
                     refine Fin.then_normal ?_
                     refine WX.seq ?_
                     refine WX.re (O' := dkO d bm D1 mx1 (T ++ (rdO r rb rf M vs (N5 ++ (N4 ++ (N3 ++ N2)))))) ?_
                     refine WX.region rfl ?_
                     refine WXL.move Met.none rfl ?_
                     refine WXL.move Met.none rfl ?_
                     refine WXL.move Met.none rfl ?_
                     refine WXL.move Met.none rfl ?_
                     first | refine WXL.ix Met.none rfl rfl elem33 sz3 ?_ | refine WXL.ixS Met.none rfl rfl elem33 sz3 ?_
                     first | refine WXL.ld Met.none rfl agg3 ?_ (hv := nv) (hk := (fun g hg => hkT g (hg.sub (by intro Q; simp only [List.countP_append, List.countP_cons]; omega)))) | refine WXL.ldS Met.none rfl agg3 ?_ (hv := nv)
                     refine WXL.cl (O1 := _) Met.none rfl (fnOk_of Try.func34 (by decide +kernel)) rfl (fun _ h => h) (rot_ok _ d bm D1 mx1 (f : Int) bi hD1 (fun g hg => hg.sub (by intro Q; have := hiT Q; simp only [List.countP_append, List.countP_cons] at this ⊢; omega)) hnv) (fun v O' hp => ?_)
                     obtain ⟨mx6, N6, rfl, rfl, hD6⟩ := hp
                     obtain ⟨D6, hD6e⟩ : ∃ D6, D6 = (rotD D1 (f : Int) bi).2 := ⟨_, rfl⟩
                     obtain ⟨u1, u2⟩ := sim_rot s2 hD1 (f : Int) bi
                     rw [rotR_twice hT.rd (f : Int) bi] at u1 u2
                     simp only at u1 u2
                     rw [s1] at u1
                     rw [← u1, ← hD6e]
                     rw [← hD6e] at hD6 u2
                     refine WXL.move Met.none rfl ?_
                     refine WXL.bin Met.none rfl rfl rfl ?_
                     refine WXL.move Met.none rfl ?_
                     refine WXL.split (d := 142) rfl (fun hg142 => ?_) (fun hg142 => ?_)
                     · try simp only [cnd] at hg142
                       exact (by simp at hg142)
                     · try simp only [cnd] at hg142
                       refine WXL.move (Met.some rfl rfl rfl) rfl ?_
                       refine WXL.move (Met.some rfl rfl rfl) rfl ?_
                       refine WXL.cl (O1 := dkO d bm D6 mx6 (rdO r rb rf M vs (N6 ++ (T ++ (N5 ++ (N4 ++ (N3 ++ N2))))))) (Met.some rfl rfl rfl) rfl (fnOk_of Try.func26 (by decide +kernel)) rfl sub_ (same_ok _ d bm D6 mx6 r rb rf M vs (hD6.inc (R := N6 ++ (T ++ (N5 ++ (N4 ++ (N3 ++ N2))))) fun g hg => hg.sub (by intro Q; have := hiT Q; simp only [List.countP_append, List.countP_cons] at this ⊢; omega)) (hT.rd.inc (R := N6 ++ (T ++ (N5 ++ (N4 ++ (N3 ++ N2))))) fun g hg => hg.sub (by intro Q; have := hiT Q; simp only [List.countP_append, List.countP_cons] at this ⊢; omega)) u2 (fun Q => Nat.le_refl _)) (fun v O' hp => ?_)
                       obtain ⟨up3, rfl, hup3, N7, rfl⟩ := hp
                       refine WXL.not (Met.some rfl rfl rfl) rfl ?_
                       refine WXL.pick_f Met.none rfl rfl ?_
                       refine WXL.nil ?_
                       refine Fin.then_normal ?_
                       refine WX.cond rfl (fun hc6 => ?_) (fun hc6 => ?_)
                       · try simp only [cnd] at hc6
                         exact absurd hup3 (by simpa using hc6)
                       · try simp only [cnd] at hc6
                         refine WX.skip ?_
                         refine Fin.block_normal ?_
                         refine Fin.then_normal ?_
                         refine WX.region rfl ?_
                         refine WXL.move Met.none rfl ?_
                         refine WXL.bin Met.none rfl rfl bvA ?_
                         refine WXL.assign Met.none rfl ?_
                         refine WXL.nil ?_
                         exact Fin.loop_next (⟨i + 1, D6, mx6, N6 ++ (N3 ++ X)⟩ : RoS) ⟨by simp only; omega, by simpa only [List.append_assoc] using hD6, u2⟩ (by simp only; omega) (fun s hs => ⟨hs.m, hs.t.told ⟨eq_, eq_, eq_, eq_, eq_, trivial⟩, hs.sat.sub (by intro Q; rw [hT2]; simp only [List.countP_append, List.countP_cons]; omega), hs.old⟩)
             · try simp only [cnd] at hc3
               refine WX.skip ?_
               refine Fin.then_normal ?_
               refine WX.seq ?_
               refine WX.re (O' := dkO d bm D1 mx1 (T ++ (rdO r rb rf M vs (N5 ++ (N4 ++ (N3 ++ N2)))))) ?_
               refine WX.region rfl ?_
               refine WXL.move Met.none rfl ?_
               refine WXL.move Met.none rfl ?_
               refine WXL.move Met.none rfl ?_
               refine WXL.move Met.none rfl ?_
               first | refine WXL.ix Met.none rfl rfl elem33 sz3 ?_ | refine WXL.ixS Met.none rfl rfl elem33 sz3 ?_
               first | refine WXL.ld Met.none rfl agg3 ?_ (hv := nv) (hk := (fun g hg => hkT g (hg.sub (by intro Q; simp only [List.countP_append, List.countP_cons]; omega)))) | refine WXL.ldS Met.none rfl agg3 ?_ (hv := nv)
               refine WXL.cl (O1 := _) Met.none rfl (fnOk_of Try.func34 (by decide +kernel)) rfl (fun _ h => h) (rot_ok _ d bm D1 mx1 (f : Int) bi hD1 (fun g hg => hg.sub (by intro Q; have := hiT Q; simp only [List.countP_append, List.countP_cons] at this ⊢; omega)) hnv) (fun v O' hp => ?_)
               obtain ⟨mx6, N6, rfl, rfl, hD6⟩ := hp
               obtain ⟨D6, hD6e⟩ : ∃ D6, D6 = (rotD D1 (f : Int) bi).2 := ⟨_, rfl⟩
               obtain ⟨u1, u2⟩ := sim_rot s2 hD1 (f : Int) bi
               rw [rotR_twice hT.rd (f : Int) bi] at u1 u2
               simp only at u1 u2
               rw [s1] at u1
               rw [← u1, ← hD6e]
               rw [← hD6e] at hD6 u2
               refine WXL.move Met.none rfl ?_
               refine WXL.bin Met.none rfl rfl rfl ?_
               refine WXL.move Met.none rfl ?_
               refine WXL.split (d := 142) rfl (fun hg142 => ?_) (fun hg142 => ?_)
               · try simp only [cnd] at hg142
                 exact (by simp at hg142)
               · try simp only [cnd] at hg142
                 refine WXL.move (Met.some rfl rfl rfl) rfl ?_
                 refine WXL.move (Met.some rfl rfl rfl) rfl ?_
                 refine WXL.cl (O1 := dkO d bm D6 mx6 (rdO r rb rf M vs (N6 ++ (T ++ (N5 ++ (N4 ++ (N3 ++ N2))))))) (Met.some rfl rfl rfl) rfl (fnOk_of Try.func26 (by decide +kernel)) rfl sub_ (same_ok _ d bm D6 mx6 r rb rf M vs (hD6.inc (R := N6 ++ (T ++ (N5 ++ (N4 ++ (N3 ++ N2))))) fun g hg => hg.sub (by intro Q; have := hiT Q; simp only [List.countP_append, List.countP_cons] at this ⊢; omega)) (hT.rd.inc (R := N6 ++ (T ++ (N5 ++ (N4 ++ (N3 ++ N2))))) fun g hg => hg.sub (by intro Q; have := hiT Q; simp only [List.countP_append, List.countP_cons] at this ⊢; omega)) u2 (fun Q => Nat.le_refl _)) (fun v O' hp => ?_)
                 obtain ⟨up3, rfl, hup3, N7, rfl⟩ := hp
                 refine WXL.not (Met.some rfl rfl rfl) rfl ?_
                 refine WXL.pick_f Met.none rfl rfl ?_
                 refine WXL.nil ?_
                 refine Fin.then_normal ?_
                 refine WX.cond rfl (fun hc6 => ?_) (fun hc6 => ?_)
                 · try simp only [cnd] at hc6
                   exact absurd hup3 (by simpa using hc6)
                 · try simp only [cnd] at hc6
                   refine WX.skip ?_
                   refine Fin.block_normal ?_
                   refine Fin.then_normal ?_
                   refine WX.region rfl ?_
                   refine WXL.move Met.none rfl ?_
                   refine WXL.bin Met.none rfl rfl bvA ?_
                   refine WXL.assign Met.none rfl ?_
                   refine WXL.nil ?_
                   exact Fin.loop_next (⟨i + 1, D6, mx6, N6 ++ (N3 ++ X)⟩ : RoS) ⟨by simp only; omega, by simpa only [List.append_assoc] using hD6, u2⟩ (by simp only; omega) (fun s hs => ⟨hs.m, hs.t.told ⟨eq_, eq_, eq_, eq_, eq_, trivial⟩, hs.sat.sub (by intro Q; rw [hT2]; simp only [List.countP_append, List.countP_cons]; omega), hs.old⟩)
           · try simp only [cnd] at hg78
             refine WXL.miss (j := 2) (d := 78) rfl rfl rfl ?_
             refine WXL.miss (j := 2) (d := 78) rfl rfl rfl ?_
             refine WXL.miss (j := 2) (d := 78) rfl rfl rfl ?_
             refine WXL.miss (j := 2) (d := 78) rfl rfl rfl ?_
             refine WXL.miss (j := 2) (d := 78) rfl rfl rfl ?_
             refine WXL.pick_f Met.none rfl rfl ?_
             refine WXL.nil ?_
             refine Fin.then_normal ?_
             refine WX.cond rfl (fun hc3 => nomatch hc3) (fun hc3 => ?_)
             refine WX.skip ?_
             refine Fin.then_normal ?_
             refine WX.seq ?_
             refine WX.re (O' := dkO d bm D1 mx1 (T ++ (rdO r rb rf M vs (N5 ++ (N4 ++ (N3 ++ N2)))))) ?_
             refine WX.region rfl ?_
             refine WXL.move Met.none rfl ?_
             refine WXL.move Met.none rfl ?_
             refine WXL.move Met.none rfl ?_
             refine WXL.move Met.none rfl ?_
             first | refine WXL.ix Met.none rfl rfl elem33 sz3 ?_ | refine WXL.ixS Met.none rfl rfl elem33 sz3 ?_
             first | refine WXL.ld Met.none rfl agg3 ?_ (hv := nv) (hk := (fun g hg => hkT g (hg.sub (by intro Q; simp only [List.countP_append, List.countP_cons]; omega)))) | refine WXL.ldS Met.none rfl agg3 ?_ (hv := nv)
             refine WXL.cl (O1 := _) Met.none rfl (fnOk_of Try.func34 (by decide +kernel)) rfl (fun _ h => h) (rot_ok _ d bm D1 mx1 (f : Int) bi hD1 (fun g hg => hg.sub (by intro Q; have := hiT Q; simp only [List.countP_append, List.countP_cons] at this ⊢; omega)) hnv) (fun v O' hp => ?_)
             obtain ⟨mx6, N6, rfl, rfl, hD6⟩ := hp
             obtain ⟨D6, hD6e⟩ : ∃ D6, D6 = (rotD D1 (f : Int) bi).2 := ⟨_, rfl⟩
             obtain ⟨u1, u2⟩ := sim_rot s2 hD1 (f : Int) bi
             rw [rotR_twice hT.rd (f : Int) bi] at u1 u2
             simp only at u1 u2
             rw [s1] at u1
             rw [← u1, ← hD6e]
             rw [← hD6e] at hD6 u2
             refine WXL.move Met.none rfl ?_
             refine WXL.bin Met.none rfl rfl rfl ?_
             refine WXL.move Met.none rfl ?_
             refine WXL.split (d := 142) rfl (fun hg142 => ?_) (fun hg142 => ?_)
             · try simp only [cnd] at hg142
               exact (by simp at hg142)
             · try simp only [cnd] at hg142
               refine WXL.move (Met.some rfl rfl rfl) rfl ?_
               refine WXL.move (Met.some rfl rfl rfl) rfl ?_
               refine WXL.cl (O1 := dkO d bm D6 mx6 (rdO r rb rf M vs (N6 ++ (T ++ (N5 ++ (N4 ++ (N3 ++ N2))))))) (Met.some rfl rfl rfl) rfl (fnOk_of Try.func26 (by decide +kernel)) rfl sub_ (same_ok _ d bm D6 mx6 r rb rf M vs (hD6.inc (R := N6 ++ (T ++ (N5 ++ (N4 ++ (N3 ++ N2))))) fun g hg => hg.sub (by intro Q; have := hiT Q; simp only [List.countP_append, List.countP_cons] at this ⊢; omega)) (hT.rd.inc (R := N6 ++ (T ++ (N5 ++ (N4 ++ (N3 ++ N2))))) fun g hg => hg.sub (by intro Q; have := hiT Q; simp only [List.countP_append, List.countP_cons] at this ⊢; omega)) u2 (fun Q => Nat.le_refl _)) (fun v O' hp => ?_)
               obtain ⟨up3, rfl, hup3, N7, rfl⟩ := hp
               refine WXL.not (Met.some rfl rfl rfl) rfl ?_
               refine WXL.pick_f Met.none rfl rfl ?_
               refine WXL.nil ?_
               refine Fin.then_normal ?_
               refine WX.cond rfl (fun hc6 => ?_) (fun hc6 => ?_)
               · try simp only [cnd] at hc6
                 exact absurd hup3 (by simpa using hc6)
               · try simp only [cnd] at hc6
                 refine WX.skip ?_
                 refine Fin.block_normal ?_
                 refine Fin.then_normal ?_
                 refine WX.region rfl ?_
                 refine WXL.move Met.none rfl ?_
                 refine WXL.bin Met.none rfl rfl bvA ?_
                 refine WXL.assign Met.none rfl ?_
                 refine WXL.nil ?_
                 exact Fin.loop_next (⟨i + 1, D6, mx6, N6 ++ (N3 ++ X)⟩ : RoS) ⟨by simp only; omega, by simpa only [List.append_assoc] using hD6, u2⟩ (by simp only; omega) (fun s hs => ⟨hs.m, hs.t.told ⟨eq_, eq_, eq_, eq_, eq_, trivial⟩, hs.sat.sub (by intro Q; rw [hT2]; simp only [List.countP_append, List.countP_cons]; omega), hs.old⟩)
     · try simp only [cnd] at hc1
       refine WX.exit ?_
       refine Fin.then_exit ?_
       refine Fin.loop_exit ?_
       refine Fin.block_hit rfl ?_
       refine Fin.then_normal ?_
       refine WX.seq ?_
       refine WX.region rfl ?_
       refine WXL.move Met.none rfl ?_
       refine WXL.cl (O1 := _) Met.none rfl (fnOk_of Try.func34 (by decide +kernel)) rfl (fun _ h => h) (rot_ok _ d bm D0 mx0 64 0 hI0 (fun g hg => hg.sub (by intro Q; have := hiT Q; simp only [List.countP_append, List.countP_cons] at this ⊢; omega)) (by unfold In64; decide)) (fun v O' hp => ?_)
       obtain ⟨mx8, N8, rfl, rfl, hD8⟩ := hp
       have h64r : (rotD D0 64 0).1 = 1 := by unfold rotD; rw [if_pos (.inl (by decide))]
       rw [h64r]
       refine WXL.bin Met.none rfl rfl rfl ?_
       refine WXL.move Met.none rfl ?_
       refine WXL.split (d := 151) rfl (fun hg151 => ?_) (fun hg151 => ?_)
       · try simp only [cnd] at hg151
         refine WXL.cl (O1 := _) (Met.some rfl rfl rfl) rfl (fnOk_of Try.func19 (by decide +kernel)) rfl (fun _ h => h) (lives_ok _) (fun v O' hp => ?_)
         obtain ⟨rfl, hO⟩ := hp
         subst O'
         refine WXL.pick_t Met.none rfl rfl ?_
         refine WXL.assign Met.none rfl ?_
         refine WXL.nil ?_
         refine Fin.then_normal ?_
         refine WX.ret ?_
         exact Fin.result (O' := []) (.inr rfl) rfl rfl (fun _ hs => ⟨by simp, fun p hp => by simp at hp, hs.wf⟩) (by first | rfl | (simp [tupleA]))
       · try simp only [cnd] at hg151
         exact (by simp at hg151)
end Go.Proofs.Ytahaplbdhgfobaa.Eng
