/- The reference's disk: Files, Copy. Own work; no condition. | The reference's crash, walked. Own work; no condition. | The reference's crash, walked. Own work; no condition. | Operations made from numbers; Ints; equal slices of ints. Own work; no condition. | The operations that a list of numbers stands for. Own work; no condition. | An operation on either disk. Own work; no condition. | Two disks that are made alike. Own work; no condition. | Both disks are found in one state. Own work; no condition. | The law DiskRuns, walked. Own work; no condition. -/
import Derived.Test.YtahaplbdhgfobaaDiskCopiesM1
import Derived.Test.YtahaplbdhgfobaaDiskCopiesM2
import Derived.Test.YtahaplbdhgfobaaDiskCopiesM3
import Derived.Test.YtahaplbdhgfobaaDiskCopiesM4
set_option linter.unusedVariables false
set_option linter.unusedSimpArgs false
set_option maxRecDepth 8000
namespace Go.Proofs.Ytahaplbdhgfobaa.Eng

def filesI (M : Rd) (i : Nat) : List Nat := (List.range i).filter fun i => decide (0 < (nth M.B i).length)
theorem filesI_succ (M : Rd) (i : Nat) : filesI M (i + 1) = filesI M i ++ (if 0 < (nth M.B i).length then [i] else []) := by
  unfold filesI
  rw [List.range_succ, List.filter_append]
  by_cases h : 0 < (nth M.B i).length
  · rw [if_pos h]; simp [h]
  · rw [if_neg h]; simp [h]
theorem filesI_len (M : Rd) (i : Nat) : (filesI M i).length ≤ i := by
  unfold filesI
  have := List.length_filter_le (fun i => decide (0 < (nth M.B i).length)) (List.range i)
  rw [List.length_range] at this
  exact this
def castV (l : List Nat) : List Value := l.map fun n => I ((n : Nat) : Int)

theorem rfiles_ok (R : Objs) {R0 : Objs} (r rb rf : Nat) (M : Rd) (vs : List Value) (h : RdI R0 M vs) : Spec Try.prog false 49 #[Ptr r 0] (rdO r rb rf M vs R) fun v O' => ∃ a c G, v = .slice a (filesR M).length c ∧ Grow 1 a (filesR M).length c (castV (filesR M)) G ∧ O' = rdO r rb rf M vs (G ++ R) := by
  refine Spec.enter (args := [_]) (m := 23) Try.func49 rfl rfl (by decide +kernel) fun h0 => ?_
  refine WX.seq ?_
  refine WX.region rfl ?_
  refine WXL.assign Met.none rfl ?_
  refine WXL.nil ?_
  refine Fin.then_normal ?_
  refine WX.seq ?_
  refine WX.region rfl ?_
  refine WXL.assign Met.none rfl ?_
  refine WXL.nil ?_
  refine Fin.then_normal ?_
  refine WX.seq ?_
  refine WX.seq ?_
  refine WX.region rfl ?_
  refine WXL.assign Met.none rfl ?_
  refine WXL.nil ?_
  refine Fin.then_normal ?_
  refine WX.block ?_
  refine WX.re (O' := rdO r rb rf M vs ([] ++ R)) ?_
  refine WX.loop (fun q : Nat × Option Addr × Nat × Objs => [(0, Ptr r 0), (3, .slice q.2.1 (filesI M q.1).length q.2.2.1), (4, I (q.1 : Int))]) (fun q => rdO r rb rf M vs (q.2.2.2 ++ R)) (fun q => q.1 ≤ 64 ∧ Grow 1 q.2.1 (filesI M q.1).length q.2.2.1 (castV (filesI M q.1)) q.2.2.2) (fun q => 64 - q.1) (0, none, 0, []) ⟨Nat.zero_le _, .nil⟩ (fun s hs => hs.tl [] 0) (fun q hq => ?_)
  obtain ⟨i, a3, c3, G3⟩ := q
  obtain ⟨hi, hG3⟩ := hq
  simp only at hi hG3
  dsimp only
  have hfl := filesI_len M i
  have hfs := filesI_succ M i
  refine WX.seq ?_
  refine WX.seq ?_
  refine WX.region rfl ?_
  refine WXL.move Met.none rfl ?_
  refine WXL.bin Met.none rfl rfl rfl ?_
  refine WXL.nil ?_
  refine Fin.then_normal ?_
  refine WX.cond rfl (fun hc0 => ?_) (fun hc0 => ?_)
  · try simp only [cnd] at hc0
    refine WX.skip ?_
    refine Fin.then_normal ?_
    refine WX.seq ?_
    refine WX.block ?_
    refine WX.seq ?_
    have hi64 : i < 64 := by omega
    obtain ⟨a, c, ev, _⟩ := h.file i hi64
    have hv : vs[i]? = some (.slice a (nth M.B i).length c) := by rw [← ev]; exact nth_eq (by rw [h.lenV]; exact hi64)
    refine WX.region rfl ?_
    refine WXL.move Met.none rfl ?_
    refine WXL.nilCheck Met.none rfl ?_
    first | refine WXL.fieldAddr Met.none rfl Try.underlying58 rfl sz22 rfl ?_ | refine WXL.faS Met.none rfl Try.underlying58 rfl sz22 ?_
    first | refine WXL.ld Met.none rfl agg22 ?_ | refine WXL.ldS Met.none rfl agg22 ?_
    refine WXL.move Met.none rfl ?_
    first | refine WXL.ix Met.none rfl rfl elem22 sz27 ?_ | refine WXL.ixS Met.none rfl rfl elem22 sz27 ?_
    first | refine WXL.ld Met.none rfl agg27 ?_ (hv := hv) | refine WXL.ldS Met.none rfl agg27 ?_ (hv := hv)
    refine WXL.len Met.none rfl Try.underlying27 ?_
    refine WXL.bin Met.none rfl rfl rfl ?_
    refine WXL.nil ?_
    refine Fin.then_normal ?_
    refine WX.cond rfl (fun hc1 => ?_) (fun hc1 => ?_)
    · try simp only [cnd] at hc1
      rw [if_pos (by omega)] at hfs
      refine WX.region rfl ?_
      refine WXL.move Met.none rfl ?_
      refine WXL.move Met.none rfl ?_
      refine WXL.buildSlice (c := [_]) Met.none rfl elem33 sz3 zero3 (by decide) (by decide) rfl rfl rfl rfl (fun b20 => ?_)
      refine WXL.apG [_, _, _, _] Met.none rfl rfl isrow33 elem33 sz3 by3 zero3 (Src.lit (cs := [_])) (fun a21 c21 G21 hG21 => ?_)
      refine WXL.assign Met.none rfl ?_
      refine WXL.nil ?_
      refine Fin.block_normal ?_
      refine Fin.then_normal ?_
      first | refine WX.re (O' := rdO r rb rf M vs (G21 ++ R)) ?_ | skip
      refine WX.region rfl ?_
      refine WXL.move Met.none rfl ?_
      refine WXL.bin Met.none rfl rfl bvA ?_
      refine WXL.assign Met.none rfl ?_
      refine WXL.nil ?_
      first
      | exact Fin.loop_next (i + 1, a21, c21, G21) ⟨by simp only; omega, by simp only; rw [hfs, List.length_append]; unfold castV at hG21 ⊢; rw [List.map_append]; exact hG21⟩ (by simp only; omega) (fun s hs => by dsimp only; rw [hfs, List.length_append]; exact hs.tl [] 0)
      | exact Fin.loop_next (i + 1, a3, c3, G3) ⟨by simp only; omega, by simp only; rw [hfs]; exact hG3⟩ (by simp only; omega) (fun s hs => by dsimp only; rw [hfs]; exact hs.tl [] 0)
    · try simp only [cnd] at hc1
      rw [if_neg (by omega), List.append_nil] at hfs
      refine WX.skip ?_
      refine Fin.block_normal ?_
      refine Fin.then_normal ?_
      first | refine WX.re (O' := rdO r rb rf M vs (G21 ++ R)) ?_ | skip
      refine WX.region rfl ?_
      refine WXL.move Met.none rfl ?_
      refine WXL.bin Met.none rfl rfl bvA ?_
      refine WXL.assign Met.none rfl ?_
      refine WXL.nil ?_
      first
      | exact Fin.loop_next (i + 1, a21, c21, G21) ⟨by simp only; omega, by simp only; rw [hfs, List.length_append]; unfold castV at hG21 ⊢; rw [List.map_append]; exact hG21⟩ (by simp only; omega) (fun s hs => by dsimp only; rw [hfs, List.length_append]; exact hs.tl [] 0)
      | exact Fin.loop_next (i + 1, a3, c3, G3) ⟨by simp only; omega, by simp only; rw [hfs]; exact hG3⟩ (by simp only; omega) (fun s hs => by dsimp only; rw [hfs]; exact hs.tl [] 0)
  · try simp only [cnd] at hc0
    refine WX.exit ?_
    refine Fin.then_exit ?_
    refine Fin.loop_exit ?_
    refine Fin.block_hit rfl ?_
    refine Fin.then_normal ?_
    refine WX.seq ?_
    have hie : i = 64 := by omega
    rw [hie] at hG3 ⊢
    refine WX.region rfl ?_
    refine WXL.move Met.none rfl ?_
    refine WXL.assign Met.none rfl ?_
    refine WXL.nil ?_
    refine Fin.then_normal ?_
    refine WX.ret ?_
    exact Fin.result (O' := rdO r rb rf M vs (G3 ++ R)) (.inr rfl) rfl rfl drop_ ⟨a3, c3, G3, rfl, hG3, rfl⟩

/-! ### Copy -/
def copB (M : Rd) (i : Nat) : List (List Int) := M.B.take i ++ List.replicate (64 - i) []
def copF (M : Rd) (i : Nat) : List Int := M.F.take i ++ List.replicate (64 - i) 0

theorem cop_nth {α : Type} [Inhabited α] {l : List α} {a : α} (hl : l.length = 64) {i n : Nat} (hi : i ≤ 64) (hn : n < 64) : nth (l.take i ++ List.replicate (64 - i) a) n = if n < i then nth l n else a := by
  rw [nth_get (by rw [List.length_append, List.length_take, List.length_replicate]; omega)]
  split
  · rename_i h
    rw [List.getElem_append_left (by rw [List.length_take]; omega), List.getElem_take, nth_get (by omega)]
  · rename_i h
    rw [List.getElem_append_right (by rw [List.length_take]; omega), List.getElem_replicate]

theorem cop_set {α : Type} [Inhabited α] {l : List α} {a : α} (hl : l.length = 64) {i : Nat} (hi : i < 64) : (l.take i ++ List.replicate (64 - i) a).set i (nth l i) = l.take (i + 1) ++ List.replicate (64 - (i + 1)) a := by
  apply List.ext_getElem
  · simp [hl]; omega
  · intro n h1 h2
    rw [List.length_set, List.length_append, List.length_take, List.length_replicate] at h1
    have hn : n < 64 := by omega
    rw [← nth_get h2, cop_nth hl (by omega) hn, ← nth_get (by rw [List.length_set, List.length_append, List.length_take, List.length_replicate]; exact h1), nth_setE (by rw [List.length_append, List.length_take, List.length_replicate]; omega), cop_nth hl (by omega) hn]
    by_cases h : n = i
    · subst h; rw [if_pos rfl, if_pos (by omega)]
    · rw [if_neg h]
      by_cases h3 : n < i
      · rw [if_pos h3, if_pos (by omega)]
      · rw [if_neg h3, if_neg (by omega)]

theorem cop_all {α : Type} {l : List α} {a : α} (hl : l.length = 64) : l.take 64 ++ List.replicate (64 - 64) a = l := by
  rw [List.take_of_length_le (by omega)]
  simp

structure CoS where
  i : Nat
  vs : List Value
  N : Objs

theorem rcopy_ok (R : Objs) {R0 : Objs} (r rb rf : Nat) (M : Rd) (vs : List Value) (h : RdI R0 M vs) (hi : ∀ g, Sat g R → Sat g R0) : Spec Try.prog false 33 #[Ptr r 0] (rdO r rb rf M vs R) fun v O' => ∃ r2 rb2 rf2 vs2 N, v = Ptr r2 0 ∧ O' = rdO r2 rb2 rf2 M vs2 (rdO r rb rf M vs (N ++ R)) ∧ RdI N M vs2 := by
  refine Spec.enter (args := [_]) (m := 63) Try.func33 rfl rfl (by decide +kernel) fun h0 => ?_
  refine WX.seq ?_
  refine WX.region rfl ?_
  refine WXL.assign Met.none rfl ?_
  refine WXL.nil ?_
  refine Fin.then_normal ?_
  refine WX.seq ?_
  refine WX.region rfl ?_
  refine WXL.move Met.none rfl ?_
  refine WXL.nilCheck Met.none rfl ?_
  first | refine WXL.fieldAddr Met.none rfl Try.underlying58 rfl sz3 rfl ?_ | refine WXL.faS Met.none rfl Try.underlying58 rfl sz3 ?_
  first | refine WXL.ld Met.none rfl agg3 ?_ | refine WXL.ldS Met.none rfl agg3 ?_
  refine WXL.cl (O1 := _) Met.none rfl (fnOk_of Try.func22 (by decide +kernel)) rfl (fun _ h => h) (rnew_ok _ M.room) (fun v O' hp => ?_)
  obtain ⟨r2, rb2, rf2, rfl, rfl⟩ := hp
  refine WXL.assign Met.none rfl ?_
  refine WXL.nil ?_
  refine Fin.then_normal ?_
  refine WX.seq ?_
  refine WX.seq ?_
  refine WX.region rfl ?_
  refine WXL.assign Met.none rfl ?_
  refine WXL.nil ?_
  refine Fin.then_normal ?_
  refine WX.block ?_
  refine WX.re (O' := rdO r2 rb2 rf2 ⟨M.room, copB M 0, copF M 0, false, -1⟩ vs0 (rdO r rb rf M vs ([] ++ R))) ?_ (by rw [show copF M 0 = List.replicate 64 0 from by unfold copF; rw [List.take_zero]; rfl]; exact fun _ hs => hs)
  refine WX.loop (fun q : CoS => [(0, Ptr r 0), (3, Ptr r2 0), (4, I (q.i : Int))]) (fun q => rdO r2 rb2 rf2 ⟨M.room, copB M q.i, copF M q.i, false, -1⟩ q.vs (rdO r rb rf M vs (q.N ++ R))) (fun q => q.i ≤ 64 ∧ q.vs.length = 64 ∧ (∀ n, n < q.i → RowV q.N (nth q.vs n) (nth M.B n)) ∧ ∀ n, q.i ≤ n → n < 64 → nth q.vs n = .slice none 0 0) (fun q => 64 - q.i) ⟨0, vs0, []⟩ ⟨Nat.zero_le _, by unfold vs0; simp, (fun n hn => absurd hn (Nat.not_lt_zero _)), fun n _ hn => by unfold vs0; exact nth_replicate hn⟩ (fun s hs => hs.tl [] 0) (fun q hq => ?_)
  obtain ⟨i, ws, N⟩ := q
  obtain ⟨hi4, hwl, hw1, hw2⟩ := hq
  simp only at hi4 hwl hw1 hw2
  dsimp only
  refine WX.seq ?_
  refine WX.seq ?_
  refine WX.region rfl ?_
  refine WXL.move Met.none rfl ?_
  refine WXL.bin Met.none rfl rfl rfl ?_
  refine WXL.nil ?_
  refine Fin.then_normal ?_
  refine WX.cond rfl (fun hc0 => ?_) (fun hc0 => ?_)
  · try simp only [cnd] at hc0
    refine WX.skip ?_
    refine Fin.then_normal ?_
    refine WX.seq ?_
    refine WX.block ?_
    refine WX.seq ?_
    have hi64 : i < 64 := by omega
    obtain ⟨fa, fc, hfv, hrow0, hnil, hB⟩ := h.file i hi64
    have hrow := hrow0.inc hi
    have hfl := h.len hi64
    have hv : vs[i]? = some (.slice fa (nth M.B i).length fc) := by rw [← hfv]; exact nth_eq (by rw [h.lenV]; exact hi64)
    have hw : ws[i]? = some (.slice none 0 0) := by rw [← hw2 i (Nat.le_refl _) hi64]; exact nth_eq (by rw [hwl]; exact hi64)
    have hFl : (copF M i).length = 64 := by unfold copF; rw [List.length_append, List.length_take, List.length_replicate, h.lenF]; omega
    refine WX.draw rfl ?_
    refine WXL.move Met.none rfl ?_
    refine WXL.nilCheck Met.none rfl ?_
    first | refine WXL.fieldAddr Met.none rfl Try.underlying58 rfl sz22 rfl ?_ | refine WXL.faS Met.none rfl Try.underlying58 rfl sz22 ?_
    first | refine WXL.ld Met.none rfl agg22 ?_ | refine WXL.ldS Met.none rfl agg22 ?_
    refine WXL.move Met.none rfl ?_
    refine WXL.move Met.none rfl ?_
    refine WXL.nilCheck Met.none rfl ?_
    first | refine WXL.fieldAddr Met.none rfl Try.underlying58 rfl sz22 rfl ?_ | refine WXL.faS Met.none rfl Try.underlying58 rfl sz22 ?_
    first | refine WXL.ld Met.none rfl agg22 ?_ | refine WXL.ldS Met.none rfl agg22 ?_
    refine WXL.move Met.none rfl ?_
    first | refine WXL.ix Met.none rfl rfl elem22 sz27 ?_ | refine WXL.ixS Met.none rfl rfl elem22 sz27 ?_
    first | refine WXL.ld Met.none rfl agg27 ?_ (hv := hw) | refine WXL.ldS Met.none rfl agg27 ?_ (hv := hw)
    refine WXL.move Met.none rfl ?_
    refine WXL.nilCheck Met.none rfl ?_
    first | refine WXL.fieldAddr Met.none rfl Try.underlying58 rfl sz22 rfl ?_ | refine WXL.faS Met.none rfl Try.underlying58 rfl sz22 ?_
    first | refine WXL.ld Met.none rfl agg22 ?_ | refine WXL.ldS Met.none rfl agg22 ?_
    refine WXL.move Met.none rfl ?_
    first | refine WXL.ix Met.none rfl rfl elem22 sz27 ?_ | refine WXL.ixS Met.none rfl rfl elem22 sz27 ?_
    first | refine WXL.ld Met.none rfl agg27 ?_ (hv := hv) | refine WXL.ldS Met.none rfl agg27 ?_ (hv := hv)
    refine WXL.apG [_, _, _, _, _, _] Met.none rfl rfl isrow27 elem27 sz5 by5 zero5 (Src.cons (Src.cons (Src.cons (Src.cons (Src.cons (Src.cons (Src.app (hrow.src hnil)))))))) (fun a33 c33 G33 hG33 => ?_) (hm := (by rw [List.length_map]; omega)) (hO := (show _ = [_, _, _, _, _, _] ++ ([] ++ (N ++ R)) from rfl)) (hg := (Grow.nil (sz := 1)))
    first | refine WXL.ix Met.none rfl rfl elem22 sz27 ?_ | refine WXL.ixS Met.none rfl rfl elem22 sz27 ?_
    refine WXL.st (vs := [_]) (j := 1) Met.none rfl rfl rfl sz27 ?_ (hj := rfl) (hl := (by show i + 1 ≤ ws.length; rw [hwl]; omega)) (hc := (splice_one (by rw [hwl]; exact hi64)))
    refine WXL.nil ?_
    refine Fin.then_normal ?_
    refine WX.draw rfl ?_
    refine WXL.move Met.none rfl ?_
    refine WXL.nilCheck Met.none rfl ?_
    first | refine WXL.fieldAddr Met.none rfl Try.underlying58 rfl sz33 rfl ?_ | refine WXL.faS Met.none rfl Try.underlying58 rfl sz33 ?_
    first | refine WXL.ld Met.none rfl agg33 ?_ | refine WXL.ldS Met.none rfl agg33 ?_
    refine WXL.move Met.none rfl ?_
    refine WXL.move Met.none rfl ?_
    refine WXL.nilCheck Met.none rfl ?_
    first | refine WXL.fieldAddr Met.none rfl Try.underlying58 rfl sz33 rfl ?_ | refine WXL.faS Met.none rfl Try.underlying58 rfl sz33 ?_
    first | refine WXL.ld Met.none rfl agg33 ?_ | refine WXL.ldS Met.none rfl agg33 ?_
    refine WXL.move Met.none rfl ?_
    first | refine WXL.ix Met.none rfl rfl elem33 sz3 ?_ | refine WXL.ixS Met.none rfl rfl elem33 sz3 ?_
    first | refine WXL.ld Met.none rfl agg3 ?_ (hv := (cell_map I _ i (by rw [h.lenF]; exact hi64))) | refine WXL.ldS Met.none rfl agg3 ?_ (hv := (cell_map I _ i (by rw [h.lenF]; exact hi64)))
    first | refine WXL.ix Met.none rfl rfl elem33 sz3 ?_ | refine WXL.ixS Met.none rfl rfl elem33 sz3 ?_
    refine WXL.st (vs := [_]) (j := 2) Met.none rfl rfl rfl sz3 ?_ (hj := rfl) (hl := (by rw [List.length_map, hFl]; show i + 1 ≤ 64; omega)) (hc := (splice_map I _ i (nth M.F i) (by rw [hFl]; exact hi64)))
    refine WXL.nil ?_
    refine Fin.block_normal ?_
    refine Fin.then_normal ?_
    refine WX.re (O' := rdO r2 rb2 rf2 ⟨M.room, copB M (i + 1), copF M (i + 1), false, -1⟩ (ws.set i (.slice a33 (0 + (nth M.B i).length) c33)) (rdO r rb rf M vs ((G33 ++ N) ++ R))) ?_ (by rw [show copF M (i + 1) = (copF M i).set i (nth M.F i) from (cop_set h.lenF hi64).symm]; exact sub_)
    refine WX.region rfl ?_
    refine WXL.move Met.none rfl ?_
    refine WXL.bin Met.none rfl rfl bvA ?_
    refine WXL.assign Met.none rfl ?_
    refine WXL.nil ?_
    refine Fin.loop_next (⟨i + 1, ws.set i (.slice a33 (0 + (nth M.B i).length) c33), G33 ++ N⟩ : CoS) ⟨by simp only; omega, by simp only [List.length_set]; exact hwl, fun n hn => ?_, fun n h1 h2 => ?_⟩ (by simp only; omega) (fun s hs => hs.tl [] 0)
    · simp only at hn ⊢
      rw [nth_setE (by rw [hwl]; exact hi64)]
      by_cases hq : n = i
      · rw [if_pos hq, hq]
        have h3 := hG33.rowy (R := N)
        rw [List.nil_append, Nat.zero_add] at h3
        exact ⟨a33, c33, by rw [Nat.zero_add], h3, fun q => (hG33.nil0 q).1, hB⟩
      · rw [if_neg hq]
        exact (hw1 n (by omega)).app
    · simp only at h1 ⊢
      rw [nth_setE (by rw [hwl]; exact hi64), if_neg (by omega)]
      exact hw2 n (by omega) h2
  · try simp only [cnd] at hc0
    refine WX.exit ?_
    refine Fin.then_exit ?_
    refine Fin.loop_exit ?_
    refine Fin.block_hit rfl ?_
    refine Fin.then_normal ?_
    refine WX.seq ?_
    have hie : i = 64 := by omega
    subst hie
    refine WX.re (O' := rdO r2 rb2 rf2 ⟨M.room, M.B, M.F, false, -1⟩ ws (rdO r rb rf M vs (N ++ R))) ?_ (by rw [show copF M 64 = M.F from cop_all h.lenF]; exact fun _ hs => hs)
    refine WX.region rfl ?_
    refine WXL.move Met.none rfl ?_
    refine WXL.move Met.none rfl ?_
    refine WXL.nilCheck Met.none rfl ?_
    first | refine WXL.fieldAddr Met.none rfl Try.underlying58 rfl sz4 rfl ?_ | refine WXL.faS Met.none rfl Try.underlying58 rfl sz4 ?_
    first | refine WXL.ld Met.none rfl agg4 ?_ | refine WXL.ldS Met.none rfl agg4 ?_
    refine WXL.nilCheck Met.none rfl ?_
    first | refine WXL.fieldAddr Met.none rfl Try.underlying58 rfl sz4 rfl ?_ | refine WXL.faS Met.none rfl Try.underlying58 rfl sz4 ?_
    refine WXL.st (vs := [_]) (j := 0) Met.none rfl rfl rfl sz4 ?_ (hj := rfl)
    refine WXL.nil ?_
    refine Fin.then_normal ?_
    refine WX.seq ?_
    refine WX.region rfl ?_
    refine WXL.move Met.none rfl ?_
    refine WXL.move Met.none rfl ?_
    refine WXL.nilCheck Met.none rfl ?_
    first | refine WXL.fieldAddr Met.none rfl Try.underlying58 rfl sz3 rfl ?_ | refine WXL.faS Met.none rfl Try.underlying58 rfl sz3 ?_
    first | refine WXL.ld Met.none rfl agg3 ?_ | refine WXL.ldS Met.none rfl agg3 ?_
    refine WXL.nilCheck Met.none rfl ?_
    first | refine WXL.fieldAddr Met.none rfl Try.underlying58 rfl sz3 rfl ?_ | refine WXL.faS Met.none rfl Try.underlying58 rfl sz3 ?_
    refine WXL.st (vs := [_]) (j := 0) Met.none rfl rfl rfl sz3 ?_ (hj := rfl)
    refine WXL.nil ?_
    refine Fin.then_normal ?_
    refine WX.seq ?_
    refine WX.region rfl ?_
    refine WXL.move Met.none rfl ?_
    refine WXL.assign Met.none rfl ?_
    refine WXL.nil ?_
    refine Fin.then_normal ?_
    refine WX.ret ?_
    exact Fin.result (O' := rdO r2 rb2 rf2 M ws (rdO r rb rf M vs (N ++ R))) (.inr rfl) rfl rfl drop_ ⟨r2, rb2, rf2, ws, N, rfl, rfl, ⟨hwl, h.lenB, h.lenF, hw1, h.room, h.used, h.plan, h.firm⟩⟩

end Go.Proofs.Ytahaplbdhgfobaa.Eng

set_option linter.unusedVariables false
set_option linter.unusedSimpArgs false
set_option maxRecDepth 8000
namespace Go.Proofs.Ytahaplbdhgfobaa.Eng

/-! ### 1. The turned bit among own rows -/
def flipO (o : OwnF) (p k : Nat) : OwnF :=
  ⟨o.n, ⟨o.f.bs.set (o.f.d.toNat + p) (flipB (nth o.f.bs (o.f.d.toNat + p)) k), o.f.d⟩, o.a, o.c, match o.a with
    | some ⟨b, _, _⟩ => [(b, ⟨1, false, (o.f.bs.set (o.f.d.toNat + p) (flipB (nth o.f.bs (o.f.d.toNat + p)) k)).map B8⟩)]
    | none => []⟩
def flipOw (p k : Nat) : List OwnF → List OwnF
  | [] => []
  | o :: l => if p < looseN o.f then flipO o p k :: l else o :: flipOw (p - looseN o.f) k l

theorem flipOw_nf (k : Nat) : ∀ (p : Nat) (l : List OwnF), (flipOw p k l).map OwnF.nf = flipC p k (l.map OwnF.nf)
  | _, [] => rfl
  | p, o :: l => by
    unfold flipOw
    rw [List.map_cons]
    unfold flipC
    by_cases h : p < looseN o.f
    · rw [if_pos h, if_pos (show p < looseN (OwnF.nf o).2 from h)]; rfl
    · rw [if_neg h, if_neg (show ¬ p < looseN (OwnF.nf o).2 from h), List.map_cons, flipOw_nf k _ l]; rfl

theorem flipOw_at (k r : Nat) {o : OwnF} {l2 : List OwnF} (hr : r < looseN o.f) : ∀ (l1 : List OwnF), flipOw (looseSum (l1.map OwnF.nf) + r) k (l1 ++ o :: l2) = l1 ++ flipO o r k :: l2
  | [] => by
    show flipOw (0 + r) k (o :: l2) = _
    rw [Nat.zero_add]
    unfold flipOw
    rw [if_pos hr]
    rfl
  | x :: l1 => by
    have e : looseSum ((x :: l1).map OwnF.nf) = looseN x.f + looseSum (l1.map OwnF.nf) := rfl
    rw [List.cons_append, List.cons_append, e]
    conv => lhs; unfold flipOw
    rw [if_neg (by omega), show looseN x.f + looseSum (l1.map OwnF.nf) + r - looseN x.f = looseSum (l1.map OwnF.nf) + r by omega, flipOw_at k r hr l1]

/-- Own rows and the slices that lie in them. -/
structure CrV (M : Rd) (vs : List Value) (L : List (Int × Fi)) (ow : List OwnF) (ws : List Value) : Prop where
  nf : ow.map OwnF.nf = L
  len : ws.length = 64
  row : ∀ o ∈ ow, Grow 1 o.a o.f.bs.length o.c (o.f.bs.map B8) o.G ∧ Bytes o.f.bs ∧ (0 ≤ o.n ∧ o.n < 64) ∧ nth ws o.n.toNat = .slice o.a o.f.bs.length o.c
  other : ∀ n : Nat, n < 64 → ((n : Nat) : Int) ∉ ow.map (·.n) → nth ws n = nth vs n

theorem flip_row {M : Rd} {vs : List Value} {o : OwnF} {r k : Nat} {ws : List Value} (h : Grow 1 o.a o.f.bs.length o.c (o.f.bs.map B8) o.G ∧ Bytes o.f.bs ∧ (0 ≤ o.n ∧ o.n < 64) ∧ nth ws o.n.toNat = .slice o.a o.f.bs.length o.c) :
    Grow 1 (flipO o r k).a (flipO o r k).f.bs.length (flipO o r k).c ((flipO o r k).f.bs.map B8) (flipO o r k).G ∧ Bytes (flipO o r k).f.bs ∧ (0 ≤ (flipO o r k).n ∧ (flipO o r k).n < 64) ∧ nth ws (flipO o r k).n.toNat = .slice (flipO o r k).a (flipO o r k).f.bs.length (flipO o r k).c := by
  obtain ⟨h1, h2, h3, h4⟩ := h
  have hl : (flipO o r k).f.bs.length = o.f.bs.length := List.length_set
  refine ⟨?_, ?_, h3, by rw [hl]; exact h4⟩
  · rw [hl]
    rcases h1 with ⟨a1, a2, a3, a4, a5⟩ | ⟨b, a1, a2, a3⟩
    · have hz : o.f.bs = [] := List.length_eq_zero_iff.1 a2
      refine .inl ⟨a1, a2, a3, ?_, ?_⟩
      · unfold flipO; simp [hz]
      · unfold flipO; simp only [a1]
    · refine .inr ⟨b, a1, ?_, ?_⟩
      · unfold flipO; simp only [a1]
      · unfold flipO
        simp only [List.length_map, List.length_set] at a3 ⊢
        omega
  · intro y hy
    rcases List.mem_or_eq_of_mem_set hy with p | p
    · exact h2 y p
    · rw [p]; exact flipB_range _ _

theorem flipOw_row (k : Nat) {ws : List Value} : ∀ (p : Nat) (l : List OwnF), (∀ o ∈ l, Grow 1 o.a o.f.bs.length o.c (o.f.bs.map B8) o.G ∧ Bytes o.f.bs ∧ (0 ≤ o.n ∧ o.n < 64) ∧ nth ws o.n.toNat = .slice o.a o.f.bs.length o.c) → ∀ o ∈ flipOw p k l, Grow 1 o.a o.f.bs.length o.c (o.f.bs.map B8) o.G ∧ Bytes o.f.bs ∧ (0 ≤ o.n ∧ o.n < 64) ∧ nth ws o.n.toNat = .slice o.a o.f.bs.length o.c
  | _, [], h => fun o ho => by simp [flipOw] at ho
  | p, x :: l, h => by
    unfold flipOw
    intro o ho
    split at ho
    · rcases List.mem_cons.1 ho with rfl | ho
      · exact flip_row (M := ⟨0, [], [], false, 0⟩) (vs := []) (h x (List.mem_cons_self ..))
      · exact h o (List.mem_cons_of_mem _ ho)
    · rcases List.mem_cons.1 ho with rfl | ho
      · exact h o (List.mem_cons_self ..)
      · exact flipOw_row k (p - looseN x.f) l (fun o' h' => h o' (List.mem_cons_of_mem _ h')) o ho

theorem flipOw_keys (k : Nat) : ∀ (p : Nat) (l : List OwnF), (flipOw p k l).map (·.n) = l.map (·.n)
  | _, [] => rfl
  | p, x :: l => by
    unfold flipOw
    split
    · rfl
    · rw [List.map_cons, List.map_cons, flipOw_keys k _ l]

theorem CrV.flip {M : Rd} {vs ws : List Value} {L : List (Int × Fi)} {ow : List OwnF} (h : CrV M vs L ow ws) (p k : Nat) : CrV M vs (flipC p k L) (flipOw p k ow) ws :=
  ⟨by rw [flipOw_nf, h.nf], h.len, flipOw_row k p ow h.row, fun n hn hk => h.other n hn (by rw [flipOw_keys] at hk; exact hk)⟩

/-- What lies in the files then. -/
def crashB (M : Rd) (L : List (Int × Fi)) : List (List Int) := (List.range 64).map fun n => ((mget ((n : Nat) : Int) L).getD ⟨[], 0⟩).bs

theorem CrV.file {M : Rd} {vs ws : List Value} {L : List (Int × Fi)} {ow : List OwnF} {R0 : Objs} (h : CrV M vs L ow ws) (hR : RdI R0 M vs) (hnd : (L.map (·.1)).Nodup) (hk : ∀ n : Nat, n < 64 → ((n : Nat) : Int) ∉ L.map (·.1) → nth M.B n = []) {n : Nat} (hn : n < 64) : RowV (rowsO ow ++ R0) (nth ws n) (nth (crashB M L) n) := by
  have hkeys : ow.map (·.n) = L.map (·.1) := by rw [← h.nf, List.map_map]; rfl
  unfold crashB
  rw [nth_map_range _ hn]
  by_cases hin : ((n : Nat) : Int) ∈ ow.map (·.n)
  · obtain ⟨o, ho, hon⟩ := List.mem_map.1 hin
    obtain ⟨h1, h2, h3, h4⟩ := h.row o ho
    have hm : mget ((n : Nat) : Int) L = some o.f := mget_some hnd (by rw [← h.nf, ← hon]; exact List.mem_map.2 ⟨o, ho, rfl⟩)
    rw [hm]
    rw [show o.n.toNat = n by omega] at h4
    rw [h4]
    have hr := h1.rowy (R := ([] : Objs))
    rw [List.append_nil] at hr
    exact ⟨o.a, o.c, rfl, hr.inc fun g hg => hg.sub fun Q => by
      have := rowsO_count Q ho
      simp only [List.countP_append]
      omega, fun q => (h1.nil0 q).1, h2⟩
  · have hz := hk n hn (by rw [← hkeys]; exact hin)
    rw [mget_none (by rw [← hkeys]; exact hin), h.other n hn hin]
    have := hR.file n hn
    rw [hz] at this
    exact this.app

end Go.Proofs.Ytahaplbdhgfobaa.Eng

set_option linter.unusedVariables false
set_option linter.unusedSimpArgs false
set_option maxRecDepth 8000
namespace Go.Proofs.Ytahaplbdhgfobaa.Eng

theorem filesR_len (M : Rd) : (filesR M).length ≤ 64 := filesI_len M 64
theorem filesR_nd (M : Rd) : (filesR M).Nodup := (List.nodup_range.filter _)

theorem cutsR_succ (M : Rd) (keep : List Int) (i : Nat) : cutsR M keep (i + 1) = cutsR M keep i ++ [cutAtR M keep i] := by
  unfold cutsR
  rw [List.range_succ, List.map_append]
  rfl
theorem cutsR_keys (M : Rd) (keep : List Int) {i : Nat} (hi : i ≤ (filesR M).length) : (cutsR M keep i).map (·.1) = ((filesR M).take i).map fun n => ((n : Nat) : Int) := by
  unfold cutsR
  rw [List.map_map]
  apply List.ext_getElem
  · rw [List.length_map, List.length_range, List.length_map, List.length_take]; omega
  · intro j h1 h2
    rw [List.length_map, List.length_range] at h1
    simp only [List.getElem_map, List.getElem_range, Function.comp, cutAtR, List.getElem_take]
    rw [nth_get (by omega)]

theorem cutR_len {M : Rd} {vs : List Value} {R : Objs} (h : RdI R M vs) (keep : List Int) {f : Nat} (hf : f < 64) (i : Nat) : ((cutF keep i (fiR M f)).bs.length : Int) = nth M.F f + keepN keep i (fiR M f) ∧ 0 ≤ keepN keep i (fiR M f) ∧ nth M.F f + keepN keep i (fiR M f) ≤ ((nth M.B f).length : Nat) := by
  have hd := h.firm f hf
  have h1 := cutF_len keep i (f := fiR M f) hd
  have h2 := keepN_range keep i (f := fiR M f) hd
  exact ⟨h1, h2.1, h2.2⟩

theorem looseR_le {M : Rd} {vs : List Value} {R : Objs} (h : RdI R M vs) (keep : List Int) : ∀ i, i ≤ (filesR M).length → looseSum (cutsR M keep i) ≤ i * 16777216
  | 0, _ => Nat.zero_le _
  | i + 1, hi => by
    have h1 := looseR_le h keep i (by omega)
    have hm := (filesR_mem.1 (nth_mem (show i < (filesR M).length by omega))).1
    have h2 := h.len hm
    have h3 := cutR_len h keep hm i
    rw [cutsR_succ, looseSum_app, Nat.succ_mul]
    have h4 : looseSum [cutAtR M keep i] ≤ 16777216 := by
      show looseN (cutF keep i (fiR M (nth (filesR M) i))) + 0 ≤ 16777216
      unfold looseN
      omega
    omega

/-- The own rows when q loose bytes have been passed. -/
def owQ (at0 : Int) (ow : List OwnF) (q : Nat) : List OwnF := if 0 ≤ at0 ∧ at0.toNat / 8 < q then flipOw (at0.toNat / 8) (7 - at0.toNat % 8) ow else ow

theorem flipC_keys (k : Nat) : ∀ (p : Nat) (l : List (Int × Fi)), (flipC p k l).map (·.1) = l.map (·.1)
  | _, [] => rfl
  | p, x :: l => by
    unfold flipC
    split
    · rfl
    · rw [List.map_cons, List.map_cons, flipC_keys k _ l]

theorem crashCR_keys (M : Rd) (keep : List Int) (flip : Int) : (crashCR M keep flip).map (·.1) = (filesR M).map fun n => ((n : Nat) : Int) := by
  have h := cutsR_keys M keep (Nat.le_refl _)
  rw [List.take_length] at h
  unfold crashCR
  simp only
  split
  · rw [flipC_keys, h]
  · exact h

theorem crashCR_nd (M : Rd) (keep : List Int) (flip : Int) : ((crashCR M keep flip).map (·.1)).Nodup := by
  rw [crashCR_keys]
  exact List.pairwise_map.2 ((filesR_nd M).imp fun q e => q (by omega))

theorem crashCR_none {M : Rd} {keep : List Int} {flip : Int} {n : Nat} (hn : n < 64) (h : ((n : Nat) : Int) ∉ (crashCR M keep flip).map (·.1)) : nth M.B n = [] := by
  rw [crashCR_keys] at h
  by_cases hz : nth M.B n = []
  · exact hz
  · exact absurd (List.mem_map.2 ⟨n, filesR_mem.2 ⟨hn, hz⟩, rfl⟩) h

theorem crashCR_len {M : Rd} {vs : List Value} {R : Objs} (h : RdI R M vs) (keep : List Int) (flip : Int) (n : Nat) : (((mget ((n : Nat) : Int) (crashCR M keep flip)).getD ⟨[], 0⟩).bs.length : Int) ≤ lenR M n := by
  have hcut : ∀ f, mget ((n : Nat) : Int) (cutsR M keep (filesR M).length) = some f → (f.bs.length : Int) ≤ lenR M n := fun f hf => by
    obtain ⟨i, hi, he⟩ := List.mem_map.1 (mget_mem hf)
    have hi := List.mem_range.1 hi
    unfold cutAtR at he
    injection he with h1 h2
    have hm := (filesR_mem.1 (nth_mem hi)).1
    have h3 := cutR_len h keep hm i
    have hnn : nth (filesR M) i = n := by omega
    rw [hnn] at h3 h2
    rw [← h2]
    unfold lenR
    omega
  have key : ∀ f, mget ((n : Nat) : Int) (crashCR M keep flip) = some f → (f.bs.length : Int) ≤ lenR M n := fun f hf => by
    unfold crashCR at hf
    simp only at hf
    split at hf
    · rcases flipC_get (flip.toNat % (8 * looseSum (cutsR M keep (filesR M).length)) / 8) (7 - flip.toNat % (8 * looseSum (cutsR M keep (filesR M).length)) % 8) (cutsR M keep (filesR M).length) ((n : Nat) : Int) with ⟨h1, _⟩ | ⟨g, g', h1, h2, h3, h4, h5⟩
      · rw [hf] at h1; cases h1
      · rw [hf] at h2
        injection h2 with h2
        subst h2
        rw [h4]
        exact hcut g h1
    · exact hcut f hf
  cases hm : mget ((n : Nat) : Int) (crashCR M keep flip) with
  | none => exact lenR_nn M n
  | some f => exact key f hm

theorem sumR_mono {g h : Nat → Int} (hh : ∀ i, g i ≤ h i) : ∀ n, sumR g n ≤ sumR h n
  | 0 => Int.le_refl _
  | n + 1 => by
    have h1 := sumR_mono hh n
    have h2 := hh n
    show sumR g n + g n ≤ sumR h n + h n
    omega

theorem crashR_I {M : Rd} {vs ws : List Value} {R0 : Objs} {ow : List OwnF} (h : RdI R0 M vs) {keep : List Int} {flip : Int} (hV : CrV M vs (crashCR M keep flip) ow ws) : RdI (rowsO ow ++ R0) (crashR M keep flip) ws := by
  have hB : (crashR M keep flip).B = crashB M (crashCR M keep flip) := rfl
  have hlen : ∀ n, n < 64 → lenR (crashR M keep flip) n = (((mget ((n : Nat) : Int) (crashCR M keep flip)).getD ⟨[], 0⟩).bs.length : Nat) := fun n hn => by
    unfold lenR
    rw [hB]
    unfold crashB
    rw [nth_map_range _ hn]
  refine ⟨hV.len, by rw [hB]; unfold crashB; simp, by unfold crashR; simp, fun n hn => ?_, h.room, ?_, ⟨by show (-2 : Int) ≤ -1; decide, by show (-1 : Int) < _; decide⟩, fun n hn => ?_⟩
  · rw [hB]
    exact hV.file h (crashCR_nd M keep flip) (fun n hn hk => crashCR_none hn hk) hn
  · have h1 : usedR (crashR M keep flip) = sumR (fun n => (((mget ((n : Nat) : Int) (crashCR M keep flip)).getD ⟨[], 0⟩).bs.length : Nat)) 64 := sumR_congr hlen
    have h2 := sumR_mono (crashCR_len h keep flip) 64
    have h3 := h.used
    rw [h1]
    unfold usedR at h3
    exact Int.le_trans h2 h3
  · have h1 : nth (crashR M keep flip).F n = lenR (crashR M keep flip) n := by
      rw [hlen n hn]
      show nth ((List.range 64).map fun n => ((((mget ((n : Nat) : Int) (crashCR M keep flip)).getD ⟨[], 0⟩).bs.length : Nat) : Int)) n = _
      rw [nth_map_range _ hn]
    rw [h1]
    exact ⟨lenR_nn _ _, Int.le_refl _⟩

theorem owQ_same {at0 : Int} {ow : List OwnF} {q : Nat} (h : ¬ (0 ≤ at0 ∧ at0.toNat / 8 = q)) : owQ at0 ow (q + 1) = owQ at0 ow q := by
  unfold owQ
  by_cases h1 : 0 ≤ at0 ∧ at0.toNat / 8 < q
  · rw [if_pos h1, if_pos (by omega)]
  · rw [if_neg h1, if_neg (by omega)]
theorem owQ_here {at0 : Int} {ow : List OwnF} {q : Nat} (h : 0 ≤ at0) (hq : at0.toNat / 8 = q) : owQ at0 ow q = ow ∧ owQ at0 ow (q + 1) = flipOw q (7 - at0.toNat % 8) ow := by
  unfold owQ
  rw [if_neg (by omega), if_pos (by omega), hq]
  exact ⟨rfl, rfl⟩

set_option maxHeartbeats 2000000 in
theorem rcrash_ok (R : Objs) {R0 : Objs} (r rb rf : Nat) (M : Rd) (vs : List Value) (keep : List Int) (ak : Option Addr) (ck : Nat) (flip : Int) (h : RdI R0 M vs) (hi : ∀ Q : Nat × Ent → Bool, R0.countP Q ≤ R.countP Q) (hf64 : In64 flip) (hkl : Short keep) (hk : Src R 1 (.slice ak keep.length ck) keep.length (keep.map I)) :
    Spec Try.prog false 46 #[Ptr r 0, .slice ak keep.length ck, I flip] (rdO r rb rf M vs R) fun v O' => ∃ vs' N, O' = rdO r rb rf (crashR M keep flip) vs' (N ++ R) ∧ RdI (N ++ R0) (crashR M keep flip) vs' := by
  have hfl := filesR_len M
  refine Spec.enter (args := [_, _, _]) (m := 178) Try.func46 rfl rfl (by decide +kernel) fun h0 => ?_
  refine WX.seq ?_
  refine WX.region rfl ?_
  refine WXL.move Met.none rfl ?_
  refine WXL.cl (O1 := _) Met.none rfl (fnOk_of Try.func49 (by decide +kernel)) rfl (fun _ h => h) (rfiles_ok R r rb rf M vs h) (fun v O' hp => ?_)
  obtain ⟨a6, c6, Gf, rfl, hGf, rfl⟩ := hp
  refine WXL.assign Met.none rfl ?_
  refine WXL.nil ?_
  refine Fin.then_normal ?_
  refine WX.seq ?_
  refine WX.region rfl ?_
  refine WXL.assign Met.none rfl ?_
  refine WXL.nil ?_
  refine Fin.then_normal ?_
  refine WX.seq ?_
  refine WX.seq ?_
  refine WX.region rfl ?_
  refine WXL.assign Met.none rfl ?_
  refine WXL.nil ?_
  refine Fin.then_normal ?_
  refine WX.block ?_
  obtain ⟨B, hB⟩ : ∃ B, B = Gf ++ R := ⟨_, rfl⟩
  have hsF : Src B 1 (.slice a6 (filesR M).length c6) (filesR M).length (castV (filesR M)) := hB ▸ hGf.src
  have hsK : Src B 1 (.slice ak keep.length ck) keep.length (keep.map I) := hB ▸ Src.app hk
  have hiB : ∀ Q : Nat × Ent → Bool, R0.countP Q ≤ B.countP Q := fun Q => by
    have := hi Q
    rw [hB, List.countP_append]
    omega
  refine WX.re (O' := rdO r rb rf M vs ([] ++ B)) ?_ (by rw [hB]; exact sub_)
  refine WX.loop (fun q : Nat × List OwnF × List Value => [(0, Ptr r 0), (1, .slice ak keep.length ck), (2, I flip), (6, .slice a6 (filesR M).length c6), (7, I ((looseSum (cutsR M keep q.1) : Nat) : Int)), (8, I (q.1 : Int))]) (fun q => rdO r rb rf M q.2.2 (rowsO q.2.1 ++ B)) (fun q => q.1 ≤ (filesR M).length ∧ CrV M vs (cutsR M keep q.1) q.2.1 q.2.2) (fun q => (filesR M).length - q.1) (0, [], vs) ⟨Nat.zero_le _, rfl, h.lenV, (fun o ho => by simp at ho), fun n _ _ => rfl⟩ (fun s hs => hs.tl [] 0) (fun q hq => ?_)
  obtain ⟨i, ow, ws⟩ := q
  obtain ⟨hin, hV⟩ := hq
  simp only at hin hV
  dsimp only
  have hlo := looseR_le h keep i hin
  refine WX.seq ?_
  refine WX.seq ?_
  refine WX.region rfl ?_
  refine WXL.move Met.none rfl ?_
  refine WXL.move Met.none rfl ?_
  refine WXL.len Met.none rfl Try.underlying33 ?_
  refine WXL.bin Met.none rfl rfl rfl ?_
  refine WXL.nil ?_
  refine Fin.then_normal ?_
  refine WX.cond rfl (fun hc0 => ?_) (fun hc0 => ?_)
  · try simp only [cnd] at hc0
    refine WX.skip ?_
    refine Fin.then_normal ?_
    refine WX.seq ?_
    refine WX.block ?_
    refine WX.seq ?_
    have hik : i < (filesR M).length := by omega
    obtain ⟨f, hf⟩ : ∃ f, f = nth (filesR M) i := ⟨_, rfl⟩
    have hfm : f ∈ filesR M := hf ▸ nth_mem hik
    have hf64' := (filesR_mem.1 hfm).1
    have hnot : ((f : Nat) : Int) ∉ ow.map (·.n) := by
      have e1 : ow.map (·.n) = (cutsR M keep i).map (·.1) := by rw [← hV.nf, List.map_map]; rfl
      rw [e1, cutsR_keys M keep hin, List.mem_map]
      rintro ⟨g, hg, he⟩
      have : g = f := by omega
      subst this
      rw [List.mem_take_iff_getElem] at hg
      obtain ⟨j, hj, hje⟩ := hg
      rw [hf, nth_get hik] at hje
      have := (List.getElem_inj (filesR_nd M)).1 hje
      omega
    obtain ⟨fa, fc, hfv, hrow0, hnil, hfB⟩ := h.file f hf64'
    have hflen := h.len hf64'
    have hrow := hrow0.inc (R := rowsO ow ++ B) (fun g hg => hg.sub (by intro Q; have := hiB Q; simp only [List.countP_append]; omega))
    have hw : ws[f]? = some (.slice fa (nth M.B f).length fc) := by rw [← hfv, ← hV.other f hf64' hnot]; exact nth_eq (by rw [hV.len]; exact hf64')
    have hFf : f < M.F.length := by rw [h.lenF]; exact hf64'
    have hfd := h.firm f hf64'
    obtain ⟨cb, hcb⟩ : ∃ cb, cb = (cutF keep i (fiR M f)).bs := ⟨_, rfl⟩
    obtain ⟨hcl, hk0, hk1⟩ := cutR_len h keep hf64' i
    rw [← hcb] at hcl
    obtain ⟨kk, hkk⟩ : ∃ kk, kk = keepN keep i (fiR M f) := ⟨_, rfl⟩
    rw [← hkk] at hcl hk0 hk1
    have htk : (nth M.B f).take cb.length = cb := by
      rw [hcb]
      show (nth M.B f).take ((nth M.B f).take _).length = (nth M.B f).take _
      rw [List.length_take, ← List.take_take, List.take_length]
    have hkk2 : kk = if i < keep.length then max 0 (min (nth keep i) (((nth M.B f).length : Nat) - nth M.F f)) else 0 := hkk
    refine WX.region rfl ?_
    refine WXL.move Met.none rfl ?_
    refine WXL.move Met.none rfl ?_
    first | refine WXL.ix Met.none rfl rfl elem33 sz3 ?_ | refine WXL.ixS Met.none rfl rfl elem33 sz3 ?_
    first | refine WXL.ld Met.none rfl agg3 ?_ (hv := (show (castV (filesR M))[i]? = some (I ((f : Nat) : Int)) from by unfold castV; rw [hf]; exact cell_map _ _ _ hik)) | refine WXL.ldS Met.none rfl agg3 ?_ (hv := (show (castV (filesR M))[i]? = some (I ((f : Nat) : Int)) from by unfold castV; rw [hf]; exact cell_map _ _ _ hik))
    refine WXL.assign Met.none rfl ?_
    refine WXL.nil ?_
    refine Fin.then_normal ?_
    refine WX.seq ?_
    refine WX.region rfl ?_
    refine WXL.assign Met.none rfl ?_
    refine WXL.nil ?_
    refine Fin.then_normal ?_
    refine WX.seq ?_
    refine WX.seq ?_
    refine WX.region rfl ?_
    refine WXL.move Met.none rfl ?_
    refine WXL.move Met.none rfl ?_
    refine WXL.len Met.none rfl Try.underlying33 ?_
    refine WXL.bin Met.none rfl rfl rfl ?_
    refine WXL.nil ?_
    refine Fin.then_normal ?_
    refine WX.cond rfl (fun hc1 => ?_) (fun hc1 => ?_)
    · try simp only [cnd] at hc1
      rw [if_pos (by omega)] at hkk2
      refine WX.draw rfl ?_
      refine WXL.move Met.none rfl ?_
      refine WXL.move Met.none rfl ?_
      first | refine WXL.ix Met.none rfl rfl elem33 sz3 ?_ | refine WXL.ixS Met.none rfl rfl elem33 sz3 ?_
      first | refine WXL.ld Met.none rfl agg3 ?_ (hv := (cell_map I _ i (by omega))) | refine WXL.ldS Met.none rfl agg3 ?_ (hv := (cell_map I _ i (by omega)))
      refine WXL.move Met.none rfl ?_
      refine WXL.nilCheck Met.none rfl ?_
      first | refine WXL.fieldAddr Met.none rfl Try.underlying58 rfl sz22 rfl ?_ | refine WXL.faS Met.none rfl Try.underlying58 rfl sz22 ?_
      first | refine WXL.ld Met.none rfl agg22 ?_ | refine WXL.ldS Met.none rfl agg22 ?_
      refine WXL.move Met.none rfl ?_
      first | refine WXL.ix Met.none rfl rfl elem22 sz27 ?_ | refine WXL.ixS Met.none rfl rfl elem22 sz27 ?_
      first | refine WXL.ld Met.none rfl agg27 ?_ (hv := hw) | refine WXL.ldS Met.none rfl agg27 ?_ (hv := hw)
      refine WXL.len Met.none rfl Try.underlying27 ?_
      refine WXL.move Met.none rfl ?_
      refine WXL.nilCheck Met.none rfl ?_
      first | refine WXL.fieldAddr Met.none rfl Try.underlying58 rfl sz33 rfl ?_ | refine WXL.faS Met.none rfl Try.underlying58 rfl sz33 ?_
      first | refine WXL.ld Met.none rfl agg33 ?_ | refine WXL.ldS Met.none rfl agg33 ?_
      refine WXL.move Met.none rfl ?_
      first | refine WXL.ix Met.none rfl rfl elem33 sz3 ?_ | refine WXL.ixS Met.none rfl rfl elem33 sz3 ?_
      first | refine WXL.ld Met.none rfl agg3 ?_ (hv := (cell_map I _ f hFf)) | refine WXL.ldS Met.none rfl agg3 ?_ (hv := (cell_map I _ f hFf))
      refine WXL.bin Met.none rfl rfl bvS ?_
      refine WXL.min Met.none rfl rfl ?_
      refine WXL.max Met.none rfl rfl ?_
      refine WXL.assign Met.none rfl ?_
      refine WXL.nil ?_
      refine Fin.then_normal ?_
      refine WX.seq ?_
      refine WX.region rfl ?_
      refine WXL.assign Met.none rfl ?_
      refine WXL.nil ?_
      refine Fin.then_normal ?_
      refine WX.seq ?_
      refine WX.draw rfl ?_
      refine WXL.move Met.none rfl ?_
      refine WXL.nilCheck Met.none rfl ?_
      first | refine WXL.fieldAddr Met.none rfl Try.underlying58 rfl sz22 rfl ?_ | refine WXL.faS Met.none rfl Try.underlying58 rfl sz22 ?_
      first | refine WXL.ld Met.none rfl agg22 ?_ | refine WXL.ldS Met.none rfl agg22 ?_
      refine WXL.move Met.none rfl ?_
      refine WXL.move Met.none rfl ?_
      refine WXL.move Met.none rfl ?_
      refine WXL.nilCheck Met.none rfl ?_
      first | refine WXL.fieldAddr Met.none rfl Try.underlying58 rfl sz22 rfl ?_ | refine WXL.faS Met.none rfl Try.underlying58 rfl sz22 ?_
      first | refine WXL.ld Met.none rfl agg22 ?_ | refine WXL.ldS Met.none rfl agg22 ?_
      refine WXL.move Met.none rfl ?_
      first | refine WXL.ix Met.none rfl rfl elem22 sz27 ?_ | refine WXL.ixS Met.none rfl rfl elem22 sz27 ?_
      first | refine WXL.ld Met.none rfl agg27 ?_ (hv := hw) | refine WXL.ldS Met.none rfl agg27 ?_ (hv := hw)
      refine WXL.move Met.none rfl ?_
      refine WXL.nilCheck Met.none rfl ?_
      first | refine WXL.fieldAddr Met.none rfl Try.underlying58 rfl sz33 rfl ?_ | refine WXL.faS Met.none rfl Try.underlying58 rfl sz33 ?_
      first | refine WXL.ld Met.none rfl agg33 ?_ | refine WXL.ldS Met.none rfl agg33 ?_
      refine WXL.move Met.none rfl ?_
      first | refine WXL.ix Met.none rfl rfl elem33 sz3 ?_ | refine WXL.ixS Met.none rfl rfl elem33 sz3 ?_
      first | refine WXL.ld Met.none rfl agg3 ?_ (hv := (cell_map I _ f hFf)) | refine WXL.ldS Met.none rfl agg3 ?_ (hv := (cell_map I _ f hFf))
      refine WXL.move Met.none rfl ?_
      refine WXL.bin Met.none rfl rfl bvA ?_
      refine WXL.pre (m := cb.length) Met.none rfl rfl elem27 sz5 (Rowy.cons (Rowy.cons (Rowy.cons hrow))) hnil ?_
      have hpre := hrow.pre (m := cb.length) (by omega)
      rw [Nat.mul_one, ← List.map_take, htk] at hpre
      refine WXL.apG [_, _, _] Met.none rfl rfl isrow27 elem27 sz5 by5 zero5 (Src.cons (Src.cons (Src.cons (hpre.src hpre.nil0)))) (fun a78 c78 G78 hG78 => ?_) (hm := (by rw [List.length_map]; omega)) (hO := (show _ = [_, _, _] ++ ([] ++ (rowsO ow ++ B)) from rfl)) (hg := (Grow.nil (sz := 1)))
      first | refine WXL.ix Met.none rfl rfl elem22 sz27 ?_ | refine WXL.ixS Met.none rfl rfl elem22 sz27 ?_
      refine WXL.st (vs := [_]) (j := 1) Met.none rfl rfl rfl sz27 ?_ (hj := rfl) (hl := (by show f + 1 ≤ ws.length; rw [hV.len]; omega)) (hc := (splice_one (by rw [hV.len]; exact hf64')))
      refine WXL.nil ?_
      refine Fin.then_normal ?_
      refine WX.region rfl ?_
      refine WXL.move Met.none rfl ?_
      refine WXL.move Met.none rfl ?_
      refine WXL.bin Met.none rfl rfl bvA ?_
      refine WXL.assign Met.none rfl ?_
      refine WXL.nil ?_
      refine Fin.block_normal ?_
      refine Fin.then_normal ?_
      refine WX.re (O' := rdO r rb rf M (ws.set f (.slice a78 (0 + cb.length) c78)) ((rowsO ow ++ G78) ++ B)) ?_
      refine WX.region rfl ?_
      refine WXL.move Met.none rfl ?_
      refine WXL.bin Met.none rfl rfl bvA ?_
      refine WXL.assign Met.none rfl ?_
      refine WXL.nil ?_
      obtain ⟨o, ho⟩ : ∃ o : OwnF, o = ⟨((f : Nat) : Int), cutF keep i (fiR M f), a78, c78, G78⟩ := ⟨_, rfl⟩
      have hcut : cutAtR M keep i = OwnF.nf o := by unfold cutAtR OwnF.nf; rw [← hf, ho]
      have hro : rowsO (ow ++ [o]) = rowsO ow ++ G78 := by
        rw [rowsO_app]
        show rowsO ow ++ (o.G ++ []) = _
        rw [List.append_nil, ho]
      have hlsn : looseSum (cutsR M keep (i + 1)) = looseSum (cutsR M keep i) + (cb.length - (nth M.F f).toNat) := by
        rw [cutsR_succ, looseSum_app, hcut]
        show _ + (looseN o.f + 0) = _
        rw [ho]
        show _ + ((cutF keep i (fiR M f)).bs.length - (nth M.F f).toNat + 0) = _
        rw [← hcb]
        omega
      have hG : Grow 1 a78 cb.length c78 (cb.map B8) G78 := by
        have := hG78
        rw [List.nil_append, Nat.zero_add] at this
        exact this
      refine Fin.loop_next (i + 1, ow ++ [o], ws.set f (.slice a78 (0 + cb.length) c78)) ⟨by simp only; omega, by simp only; rw [List.map_append, hV.nf, cutsR_succ, hcut]; rfl, by simp only [List.length_set]; exact hV.len, fun o' h' => ?_, fun m hm hmn => ?_⟩ (by simp only; omega) ?_
      · simp only
        rcases List.mem_append.1 h' with q | q
        · obtain ⟨q1, q2, q3, q4⟩ := hV.row o' q
          refine ⟨q1, q2, q3, ?_⟩
          rw [nth_setE (by rw [hV.len]; exact hf64'), if_neg (fun e => hnot (List.mem_map.2 ⟨o', q, by omega⟩))]
          exact q4
        · rw [List.mem_singleton] at q
          subst q
          rw [ho]
          simp only
          rw [← hcb]
          refine ⟨hG, by rw [← htk]; exact take_bytes hfB, ⟨by omega, by omega⟩, ?_⟩
          rw [Int.toNat_natCast, nth_setE (by rw [hV.len]; exact hf64'), if_pos rfl, Nat.zero_add]
      · simp only at hmn ⊢
        rw [List.map_append, List.mem_append, not_or] at hmn
        rw [nth_setE (by rw [hV.len]; exact hf64'), if_neg (fun e => hmn.2 (by rw [ho, e]; simp))]
        exact hV.other m hm hmn.1
      · dsimp only
        rw [hro, hlsn]
        exact (fun s hs => hs.tl [] 0)
    · try simp only [cnd] at hc1
      rw [if_neg (by omega)] at hkk2
      refine WX.skip ?_
      refine Fin.then_normal ?_
      refine WX.seq ?_
      refine WX.region rfl ?_
      refine WXL.assign Met.none rfl ?_
      refine WXL.nil ?_
      refine Fin.then_normal ?_
      refine WX.seq ?_
      refine WX.draw rfl ?_
      refine WXL.move Met.none rfl ?_
      refine WXL.nilCheck Met.none rfl ?_
      first | refine WXL.fieldAddr Met.none rfl Try.underlying58 rfl sz22 rfl ?_ | refine WXL.faS Met.none rfl Try.underlying58 rfl sz22 ?_
      first | refine WXL.ld Met.none rfl agg22 ?_ | refine WXL.ldS Met.none rfl agg22 ?_
      refine WXL.move Met.none rfl ?_
      refine WXL.move Met.none rfl ?_
      refine WXL.move Met.none rfl ?_
      refine WXL.nilCheck Met.none rfl ?_
      first | refine WXL.fieldAddr Met.none rfl Try.underlying58 rfl sz22 rfl ?_ | refine WXL.faS Met.none rfl Try.underlying58 rfl sz22 ?_
      first | refine WXL.ld Met.none rfl agg22 ?_ | refine WXL.ldS Met.none rfl agg22 ?_
      refine WXL.move Met.none rfl ?_
      first | refine WXL.ix Met.none rfl rfl elem22 sz27 ?_ | refine WXL.ixS Met.none rfl rfl elem22 sz27 ?_
      first | refine WXL.ld Met.none rfl agg27 ?_ (hv := hw) | refine WXL.ldS Met.none rfl agg27 ?_ (hv := hw)
      refine WXL.move Met.none rfl ?_
      refine WXL.nilCheck Met.none rfl ?_
      first | refine WXL.fieldAddr Met.none rfl Try.underlying58 rfl sz33 rfl ?_ | refine WXL.faS Met.none rfl Try.underlying58 rfl sz33 ?_
      first | refine WXL.ld Met.none rfl agg33 ?_ | refine WXL.ldS Met.none rfl agg33 ?_
      refine WXL.move Met.none rfl ?_
      first | refine WXL.ix Met.none rfl rfl elem33 sz3 ?_ | refine WXL.ixS Met.none rfl rfl elem33 sz3 ?_
      first | refine WXL.ld Met.none rfl agg3 ?_ (hv := (cell_map I _ f hFf)) | refine WXL.ldS Met.none rfl agg3 ?_ (hv := (cell_map I _ f hFf))
      refine WXL.move Met.none rfl ?_
      refine WXL.bin Met.none rfl rfl bvA ?_
      refine WXL.pre (m := cb.length) Met.none rfl rfl elem27 sz5 (Rowy.cons (Rowy.cons (Rowy.cons hrow))) hnil ?_
      have hpre := hrow.pre (m := cb.length) (by omega)
      rw [Nat.mul_one, ← List.map_take, htk] at hpre
      refine WXL.apG [_, _, _] Met.none rfl rfl isrow27 elem27 sz5 by5 zero5 (Src.cons (Src.cons (Src.cons (hpre.src hpre.nil0)))) (fun a78 c78 G78 hG78 => ?_) (hm := (by rw [List.length_map]; omega)) (hO := (show _ = [_, _, _] ++ ([] ++ (rowsO ow ++ B)) from rfl)) (hg := (Grow.nil (sz := 1)))
      first | refine WXL.ix Met.none rfl rfl elem22 sz27 ?_ | refine WXL.ixS Met.none rfl rfl elem22 sz27 ?_
      refine WXL.st (vs := [_]) (j := 1) Met.none rfl rfl rfl sz27 ?_ (hj := rfl) (hl := (by show f + 1 ≤ ws.length; rw [hV.len]; omega)) (hc := (splice_one (by rw [hV.len]; exact hf64')))
      refine WXL.nil ?_
      refine Fin.then_normal ?_
      refine WX.region rfl ?_
      refine WXL.move Met.none rfl ?_
      refine WXL.move Met.none rfl ?_
      refine WXL.bin Met.none rfl rfl bvA ?_
      refine WXL.assign Met.none rfl ?_
      refine WXL.nil ?_
      refine Fin.block_normal ?_
      refine Fin.then_normal ?_
      refine WX.re (O' := rdO r rb rf M (ws.set f (.slice a78 (0 + cb.length) c78)) ((rowsO ow ++ G78) ++ B)) ?_
      refine WX.region rfl ?_
      refine WXL.move Met.none rfl ?_
      refine WXL.bin Met.none rfl rfl bvA ?_
      refine WXL.assign Met.none rfl ?_
      refine WXL.nil ?_
      obtain ⟨o, ho⟩ : ∃ o : OwnF, o = ⟨((f : Nat) : Int), cutF keep i (fiR M f), a78, c78, G78⟩ := ⟨_, rfl⟩
      have hcut : cutAtR M keep i = OwnF.nf o := by unfold cutAtR OwnF.nf; rw [← hf, ho]
      have hro : rowsO (ow ++ [o]) = rowsO ow ++ G78 := by
        rw [rowsO_app]
        show rowsO ow ++ (o.G ++ []) = _
        rw [List.append_nil, ho]
      have hlsn : looseSum (cutsR M keep (i + 1)) = looseSum (cutsR M keep i) + (cb.length - (nth M.F f).toNat) := by
        rw [cutsR_succ, looseSum_app, hcut]
        show _ + (looseN o.f + 0) = _
        rw [ho]
        show _ + ((cutF keep i (fiR M f)).bs.length - (nth M.F f).toNat + 0) = _
        rw [← hcb]
        omega
      have hG : Grow 1 a78 cb.length c78 (cb.map B8) G78 := by
        have := hG78
        rw [List.nil_append, Nat.zero_add] at this
        exact this
      refine Fin.loop_next (i + 1, ow ++ [o], ws.set f (.slice a78 (0 + cb.length) c78)) ⟨by simp only; omega, by simp only; rw [List.map_append, hV.nf, cutsR_succ, hcut]; rfl, by simp only [List.length_set]; exact hV.len, fun o' h' => ?_, fun m hm hmn => ?_⟩ (by simp only; omega) ?_
      · simp only
        rcases List.mem_append.1 h' with q | q
        · obtain ⟨q1, q2, q3, q4⟩ := hV.row o' q
          refine ⟨q1, q2, q3, ?_⟩
          rw [nth_setE (by rw [hV.len]; exact hf64'), if_neg (fun e => hnot (List.mem_map.2 ⟨o', q, by omega⟩))]
          exact q4
        · rw [List.mem_singleton] at q
          subst q
          rw [ho]
          simp only
          rw [← hcb]
          refine ⟨hG, by rw [← htk]; exact take_bytes hfB, ⟨by omega, by omega⟩, ?_⟩
          rw [Int.toNat_natCast, nth_setE (by rw [hV.len]; exact hf64'), if_pos rfl, Nat.zero_add]
      · simp only at hmn ⊢
        rw [List.map_append, List.mem_append, not_or] at hmn
        rw [nth_setE (by rw [hV.len]; exact hf64'), if_neg (fun e => hmn.2 (by rw [ho, e]; simp))]
        exact hV.other m hm hmn.1
      · dsimp only
        rw [hro, hlsn]
        exact (fun s hs => hs.tl [] 0)
  · try simp only [cnd] at hc0
    refine WX.exit ?_
    refine Fin.then_exit ?_
    refine Fin.loop_exit ?_
    refine Fin.block_hit rfl ?_
    refine Fin.then_normal ?_
    refine WX.seq ?_
    have hie : i = (filesR M).length := by omega
    obtain ⟨S, hS⟩ : ∃ S, S = looseSum (cutsR M keep (filesR M).length) := ⟨_, rfl⟩
    rw [hie, ← hS]
    rw [hie] at hV hlo
    rw [← hS] at hlo
    have hSb : S ≤ 1073741824 := by
      have : (filesR M).length * 16777216 ≤ 64 * 16777216 := Nat.mul_le_mul_right _ hfl
      omega
    refine WX.region rfl ?_
    refine WXL.assign Met.none rfl ?_
    refine WXL.nil ?_
    refine Fin.then_normal ?_
    refine WX.seq ?_
    refine WX.seq ?_
    refine WX.region rfl ?_
    refine WXL.move Met.none rfl ?_
    refine WXL.bin Met.none rfl rfl rfl ?_
    refine WXL.move Met.none rfl ?_
    refine WXL.split (d := 85) rfl (fun hg85 => ?_) (fun hg85 => ?_)
    · try simp only [cnd] at hg85
      refine WXL.move (Met.some rfl rfl rfl) rfl ?_
      refine WXL.bin (Met.some rfl rfl rfl) rfl rfl rfl ?_
      refine WXL.pick_t Met.none rfl rfl ?_
      refine WXL.nil ?_
      refine Fin.then_normal ?_
      refine WX.cond rfl (fun hc2 => ?_) (fun hc2 => ?_)
      · try simp only [cnd] at hc2
        obtain ⟨A, hA⟩ : ∃ A, A = flip.toNat % (8 * S) := ⟨_, rfl⟩
        have hAm : flip.tmod (8 * (S : Int)) = ((A : Nat) : Int) := by
          rw [Int.tmod_eq_emod_of_nonneg (by omega), hA, Int.natCast_emod, Int.natCast_mul, Int.toNat_of_nonneg (by omega)]
          rfl
        have hAlt : A < 8 * S := by rw [hA]; exact Nat.mod_lt _ (by omega)
        refine WX.region rfl ?_
        refine WXL.move Met.none rfl ?_
        refine WXL.move Met.none rfl ?_
        refine WXL.bin Met.none rfl rfl bvM ?_
        refine WXL.rem Met.none rfl rfl (by omega) ?_
        rw [hAm]
        obtain ⟨at0, hat, hat2, hcr⟩ : ∃ at0 : Int, at0 = ((A : Nat) : Int) ∧ (at0 = -1 ∨ (0 ≤ at0 ∧ at0 < 8 * (S : Int))) ∧ crashCR M keep flip = (if 0 ≤ at0 then flipC (at0.toNat / 8) (7 - at0.toNat % 8) (cutsR M keep (filesR M).length) else cutsR M keep (filesR M).length) := ⟨(A : Nat), rfl, .inr ⟨by omega, by omega⟩, by
          unfold crashCR
          simp only
          rw [← hS, if_pos (show 0 ≤ flip ∧ 0 < 8 * S by omega), if_pos (show (0 : Int) ≤ ((A : Nat) : Int) by omega), Int.toNat_natCast, hA]⟩
        refine WXL.assign Met.none rfl ?_
        refine WXL.nil ?_
        refine Fin.then_normal ?_
        refine WX.seq ?_
        refine WX.seq ?_
        have hkeys : ow.map (·.n) = (filesR M).map fun n => ((n : Nat) : Int) := by
          have e1 : ow.map (·.n) = (cutsR M keep (filesR M).length).map (·.1) := by rw [← hV.nf, List.map_map]; rfl
          rw [e1, cutsR_keys M keep (Nat.le_refl _), List.take_length]
        have howl : ow.length = (filesR M).length := by
          have := congrArg List.length hkeys
          simpa using this
        refine WX.region rfl ?_
        refine WXL.assign Met.none rfl ?_
        refine WXL.nil ?_
        refine Fin.then_normal ?_
        refine WX.block ?_
        refine WX.re (O' := rdO r rb rf M ws (rowsO (owQ at0 ow (looseSum (cutsR M keep 0))) ++ B)) ?_ (by rw [show owQ at0 ow (looseSum (cutsR M keep 0)) = ow from by unfold owQ; rw [if_neg (by show ¬ (0 ≤ at0 ∧ at0.toNat / 8 < 0); omega)]]; exact fun _ hs => hs)
        refine WX.loop (fun j : Nat => [(0, Ptr r 0), (6, .slice a6 (filesR M).length c6), (12, I (at0 - 8 * ((looseSum (cutsR M keep j) : Nat) : Int))), (13, I (j : Int))]) (fun j => rdO r rb rf M ws (rowsO (owQ at0 ow (looseSum (cutsR M keep j))) ++ B)) (fun j => j ≤ (filesR M).length) (fun j => (filesR M).length - j) 0 (Nat.zero_le _) (fun s hs => by rw [show ((looseSum (cutsR M keep 0) : Nat) : Int) = 0 from rfl]; exact hs.tl [] 0) (fun j hj => ?_)
        have hlj := looseR_le h keep j hj
        refine WX.seq ?_
        refine WX.seq ?_
        refine WX.region rfl ?_
        refine WXL.move Met.none rfl ?_
        refine WXL.move Met.none rfl ?_
        refine WXL.len Met.none rfl Try.underlying33 ?_
        refine WXL.bin Met.none rfl rfl rfl ?_
        refine WXL.nil ?_
        refine Fin.then_normal ?_
        refine WX.cond rfl (fun hc3 => ?_) (fun hc3 => ?_)
        · try simp only [cnd] at hc3
          refine WX.skip ?_
          refine Fin.then_normal ?_
          refine WX.seq ?_
          refine WX.block ?_
          refine WX.seq ?_
          have hjk : j < (filesR M).length := by omega
          obtain ⟨f, hf⟩ : ∃ f, f = nth (filesR M) j := ⟨_, rfl⟩
          have hfm : f ∈ filesR M := hf ▸ nth_mem hjk
          have hf64' := (filesR_mem.1 hfm).1
          have hFf : f < M.F.length := by rw [h.lenF]; exact hf64'
          have hfd := h.firm f hf64'
          obtain ⟨dn, hdn⟩ : ∃ dn : Nat, nth M.F f = ((dn : Nat) : Int) := ⟨(nth M.F f).toNat, by omega⟩
          obtain ⟨o, ho⟩ : ∃ o : OwnF, o = ow[j]'(by omega) := ⟨_, rfl⟩
          have hom : o ∈ ow := ho ▸ List.getElem_mem _
          have honf : OwnF.nf o = cutAtR M keep j := by
            have h1 : (ow.map OwnF.nf)[j]'(by rw [List.length_map]; omega) = OwnF.nf o := by rw [List.getElem_map, ho]
            rw [← h1]
            simp only [hV.nf, cutsR, List.getElem_map, List.getElem_range]
          have hon : o.n = ((f : Nat) : Int) := by
            have := congrArg Prod.fst honf
            rw [hf]
            exact this
          have hof : o.f = cutF keep j (fiR M f) := by
            have := congrArg Prod.snd honf
            rw [hf]
            exact this
          have hod : o.f.d = ((dn : Nat) : Int) := by rw [hof, ← hdn]; rfl
          obtain ⟨hoG, hoB, _, hov⟩ := hV.row o hom
          rw [hon, Int.toNat_natCast] at hov
          have hwf : ws[f]? = some (.slice o.a o.f.bs.length o.c) := by rw [← hov]; exact nth_eq (by rw [hV.len]; exact hf64')
          have hocl := cutR_len h keep hf64' j
          rw [← hof] at hocl
          have hflen := h.len hf64'
          have hln : looseN o.f = o.f.bs.length - dn := by unfold looseN; rw [hod, Int.toNat_natCast]
          have hsj : looseSum (cutsR M keep (j + 1)) = looseSum (cutsR M keep j) + looseN o.f := by
            rw [cutsR_succ, looseSum_app, ← honf]
            rfl
          have hsplit : ow = ow.take j ++ o :: ow.drop (j + 1) := by rw [ho, List.getElem_cons_drop, List.take_append_drop]
          have hst : looseSum ((ow.take j).map OwnF.nf) = looseSum (cutsR M keep j) := by
            rw [List.map_take, hV.nf]
            unfold cutsR
            rw [← List.map_take, List.take_range, Nat.min_eq_left (by omega)]
          refine WX.region rfl ?_
          refine WXL.move Met.none rfl ?_
          refine WXL.move Met.none rfl ?_
          first | refine WXL.ix Met.none rfl rfl elem33 sz3 ?_ | refine WXL.ixS Met.none rfl rfl elem33 sz3 ?_
          first | refine WXL.ld Met.none rfl agg3 ?_ (hv := (show (castV (filesR M))[j]? = some (I ((f : Nat) : Int)) from by unfold castV; rw [hf]; exact cell_map _ _ _ hjk)) | refine WXL.ldS Met.none rfl agg3 ?_ (hv := (show (castV (filesR M))[j]? = some (I ((f : Nat) : Int)) from by unfold castV; rw [hf]; exact cell_map _ _ _ hjk))
          refine WXL.assign Met.none rfl ?_
          refine WXL.nil ?_
          refine Fin.then_normal ?_
          refine WX.seq ?_
          refine WX.region rfl ?_
          refine WXL.move Met.none rfl ?_
          refine WXL.nilCheck Met.none rfl ?_
          first | refine WXL.fieldAddr Met.none rfl Try.underlying58 rfl sz33 rfl ?_ | refine WXL.faS Met.none rfl Try.underlying58 rfl sz33 ?_
          first | refine WXL.ld Met.none rfl agg33 ?_ | refine WXL.ldS Met.none rfl agg33 ?_
          refine WXL.move Met.none rfl ?_
          first | refine WXL.ix Met.none rfl rfl elem33 sz3 ?_ | refine WXL.ixS Met.none rfl rfl elem33 sz3 ?_
          first | refine WXL.ld Met.none rfl agg3 ?_ (hv := (cell_map I _ f hFf)) | refine WXL.ldS Met.none rfl agg3 ?_ (hv := (cell_map I _ f hFf))
          refine WXL.assign Met.none rfl ?_
          refine WXL.nil ?_
          refine Fin.then_normal ?_
          refine WX.block ?_
          refine WX.loop (fun rr : Nat => [(0, Ptr r 0), (6, .slice a6 (filesR M).length c6), (12, I (at0 - 8 * (((looseSum (cutsR M keep j) + rr : Nat)) : Int))), (13, I (j : Int)), (14, I (f : Int)), (15, I ((dn + rr : Nat) : Int))]) (fun rr => rdO r rb rf M ws (rowsO (owQ at0 ow (looseSum (cutsR M keep j) + rr)) ++ B)) (fun rr => rr ≤ looseN o.f) (fun rr => looseN o.f - rr) 0 (Nat.zero_le _) (fun s hs => hs.tl [] 0) (fun rr hrr => ?_)
          refine WX.seq ?_
          refine WX.seq ?_
          refine WX.region rfl ?_
          refine WXL.move Met.none rfl ?_
          refine WXL.move Met.none rfl ?_
          refine WXL.nilCheck Met.none rfl ?_
          first | refine WXL.fieldAddr Met.none rfl Try.underlying58 rfl sz22 rfl ?_ | refine WXL.faS Met.none rfl Try.underlying58 rfl sz22 ?_
          first | refine WXL.ld Met.none rfl agg22 ?_ | refine WXL.ldS Met.none rfl agg22 ?_
          refine WXL.move Met.none rfl ?_
          first | refine WXL.ix Met.none rfl rfl elem22 sz27 ?_ | refine WXL.ixS Met.none rfl rfl elem22 sz27 ?_
          first | refine WXL.ld Met.none rfl agg27 ?_ (hv := hwf) | refine WXL.ldS Met.none rfl agg27 ?_ (hv := hwf)
          refine WXL.len Met.none rfl Try.underlying27 ?_
          refine WXL.bin Met.none rfl rfl rfl ?_
          refine WXL.nil ?_
          refine Fin.then_normal ?_
          refine WX.cond rfl (fun hc4 => ?_) (fun hc4 => ?_)
          · try simp only [cnd] at hc4
            refine WX.skip ?_
            refine Fin.then_normal ?_
            refine WX.seq ?_
            refine WX.block ?_
            refine WX.seq ?_
            refine WX.seq ?_
            refine WX.region rfl ?_
            refine WXL.move Met.none rfl ?_
            refine WXL.bin Met.none rfl rfl rfl ?_
            refine WXL.move Met.none rfl ?_
            refine WXL.split (d := 124) rfl (fun hg124 => ?_) (fun hg124 => ?_)
            · try simp only [cnd] at hg124
              refine WXL.move (Met.some rfl rfl rfl) rfl ?_
              refine WXL.bin (Met.some rfl rfl rfl) rfl rfl rfl ?_
              refine WXL.pick_t Met.none rfl rfl ?_
              refine WXL.nil ?_
              refine Fin.then_normal ?_
              refine WX.cond rfl (fun hc5 => ?_) (fun hc5 => ?_)
              · try simp only [cnd] at hc5
                have hrl : rr < looseN o.f := by omega
                have ha0 : 0 ≤ at0 := by omega
                have hp : at0.toNat / 8 = looseSum (cutsR M keep j) + rr := by omega
                obtain ⟨q1, q2⟩ := owQ_here (ow := ow) ha0 hp
                obtain ⟨b, hoa, hoGe⟩ : ∃ b, o.a = some ⟨b, 0, none⟩ ∧ o.G = [(b, ⟨1, false, o.f.bs.map B8⟩)] := by
                  rcases hoG with ⟨_, h0, _⟩ | ⟨b, h1, h2, _⟩
                  · omega
                  · exact ⟨b, h1, h2⟩
                have hrs : rowsO (owQ at0 ow (looseSum (cutsR M keep j) + rr)) = rowsO (ow.take j) ++ ([(b, ⟨1, false, o.f.bs.map B8⟩)] ++ rowsO (ow.drop (j + 1))) := by
                  rw [q1]
                  conv => lhs; rw [hsplit]
                  rw [rowsO_app, rowsO_cons, hoGe]
                have hzl : dn + rr < o.f.bs.length := by omega
                have hwf2 : ws[f]? = some (.slice (some ⟨b, 0, none⟩) o.f.bs.length o.c) := by rw [← hoa]; exact hwf
                have hk7 : (7 : Int) - (at0 - 8 * (((looseSum (cutsR M keep j) + rr : Nat)) : Int)) = ((7 - at0.toNat % 8 : Nat) : Int) := by omega
                have hrs2 : rowsO (owQ at0 ow (looseSum (cutsR M keep j) + (rr + 1))) = rowsO (ow.take j) ++ ([(b, ⟨1, false, (o.f.bs.set (dn + rr) (flipB (nth o.f.bs (dn + rr)) (7 - at0.toNat % 8))).map B8⟩)] ++ rowsO (ow.drop (j + 1))) := by
                  rw [← Nat.add_assoc, q2]
                  conv => lhs; rw [hsplit, ← hst]
                  rw [flipOw_at _ rr hrl, rowsO_app, rowsO_cons]
                  congr 1
                  unfold flipO
                  simp only [hoa, hod, Int.toNat_natCast]
                rw [hrs]
                refine WX.re (O' := (b, ⟨1, false, o.f.bs.map B8⟩) :: rdO r rb rf M ws ((rowsO (ow.take j) ++ rowsO (ow.drop (j + 1))) ++ B)) ?_
                refine WX.draw rfl ?_
                refine WXL.move Met.none rfl ?_
                refine WXL.nilCheck Met.none rfl ?_
                first | refine WXL.fieldAddr Met.none rfl Try.underlying58 rfl sz22 rfl ?_ | refine WXL.faS Met.none rfl Try.underlying58 rfl sz22 ?_
                first | refine WXL.ld Met.none rfl agg22 ?_ | refine WXL.ldS Met.none rfl agg22 ?_
                refine WXL.move Met.none rfl ?_
                first | refine WXL.ix Met.none rfl rfl elem22 sz27 ?_ | refine WXL.ixS Met.none rfl rfl elem22 sz27 ?_
                first | refine WXL.ld Met.none rfl agg27 ?_ (hv := hwf2) | refine WXL.ldS Met.none rfl agg27 ?_ (hv := hwf2)
                refine WXL.move Met.none rfl ?_
                refine WXL.move Met.none rfl ?_
                refine WXL.nilCheck Met.none rfl ?_
                first | refine WXL.fieldAddr Met.none rfl Try.underlying58 rfl sz22 rfl ?_ | refine WXL.faS Met.none rfl Try.underlying58 rfl sz22 ?_
                first | refine WXL.ld Met.none rfl agg22 ?_ | refine WXL.ldS Met.none rfl agg22 ?_
                refine WXL.move Met.none rfl ?_
                first | refine WXL.ix Met.none rfl rfl elem22 sz27 ?_ | refine WXL.ixS Met.none rfl rfl elem22 sz27 ?_
                first | refine WXL.ld Met.none rfl agg27 ?_ (hv := hwf2) | refine WXL.ldS Met.none rfl agg27 ?_ (hv := hwf2)
                refine WXL.move Met.none rfl ?_
                first | refine WXL.ix Met.none rfl rfl elem27 sz5 ?_ | refine WXL.ixS Met.none rfl rfl elem27 sz5 ?_
                first | refine WXL.ld Met.none rfl agg5 ?_ (hv := (cell_map _ _ _ hzl)) | refine WXL.ldS Met.none rfl agg5 ?_ (hv := (cell_map _ _ _ hzl))
                refine WXL.move Met.none rfl ?_
                refine WXL.bin Met.none rfl rfl bvS ?_
                rw [hk7]
                refine WXL.conv Met.none rfl Try.underlying3 Try.underlying77 (wrap_u64 (by omega) (by omega)) ?_
                refine WXL.shl Met.none rfl rfl (by omega) ?_
                refine WXL.bin Met.none rfl rfl (show _ = some (B8 (flipB (nth o.f.bs (dn + rr)) (7 - at0.toNat % 8))) from rfl) ?_
                first | refine WXL.ix Met.none rfl rfl elem27 sz5 ?_ | refine WXL.ixS Met.none rfl rfl elem27 sz5 ?_
                refine WXL.st (vs := [_]) (j := 0) Met.none rfl rfl rfl sz5 ?_ (hj := rfl)
                refine WXL.nil ?_
                refine Fin.then_normal ?_
                first
                | refine WX.re (O' := rdO r rb rf M ws (rowsO (owQ at0 ow (looseSum (cutsR M keep j) + (rr + 1))) ++ B)) ?_ (by rw [hrs2]; exact sub_)
                | refine WX.re (O' := rdO r rb rf M ws (rowsO (owQ at0 ow (looseSum (cutsR M keep j) + (rr + 1))) ++ B)) ?_ (by rw [← Nat.add_assoc, owQ_same (by omega)]; exact fun _ hs => hs)
                refine WX.region rfl ?_
                refine WXL.move Met.none rfl ?_
                refine WXL.bin Met.none rfl rfl bvS ?_
                refine WXL.assign Met.none rfl ?_
                refine WXL.nil ?_
                refine Fin.block_normal ?_
                refine Fin.then_normal ?_
                refine WX.region rfl ?_
                refine WXL.move Met.none rfl ?_
                refine WXL.bin Met.none rfl rfl bvA ?_
                refine WXL.assign Met.none rfl ?_
                refine WXL.nil ?_
                exact Fin.loop_next (rr + 1) (by omega) (by omega) (fun s hs => hs.tl [] 0)
              · try simp only [cnd] at hc5
                refine WX.skip ?_
                refine Fin.then_normal ?_
                first
                | refine WX.re (O' := rdO r rb rf M ws (rowsO (owQ at0 ow (looseSum (cutsR M keep j) + (rr + 1))) ++ B)) ?_ (by rw [hrs2]; exact sub_)
                | refine WX.re (O' := rdO r rb rf M ws (rowsO (owQ at0 ow (looseSum (cutsR M keep j) + (rr + 1))) ++ B)) ?_ (by rw [← Nat.add_assoc, owQ_same (by omega)]; exact fun _ hs => hs)
                refine WX.region rfl ?_
                refine WXL.move Met.none rfl ?_
                refine WXL.bin Met.none rfl rfl bvS ?_
                refine WXL.assign Met.none rfl ?_
                refine WXL.nil ?_
                refine Fin.block_normal ?_
                refine Fin.then_normal ?_
                refine WX.region rfl ?_
                refine WXL.move Met.none rfl ?_
                refine WXL.bin Met.none rfl rfl bvA ?_
                refine WXL.assign Met.none rfl ?_
                refine WXL.nil ?_
                exact Fin.loop_next (rr + 1) (by omega) (by omega) (fun s hs => hs.tl [] 0)
            · try simp only [cnd] at hg124
              refine WXL.miss (j := 2) (d := 124) rfl rfl rfl ?_
              refine WXL.miss (j := 2) (d := 124) rfl rfl rfl ?_
              refine WXL.pick_f Met.none rfl rfl ?_
              refine WXL.nil ?_
              refine Fin.then_normal ?_
              refine WX.cond rfl (fun hc5 => nomatch hc5) (fun hc5 => ?_)
              refine WX.skip ?_
              refine Fin.then_normal ?_
              first
              | refine WX.re (O' := rdO r rb rf M ws (rowsO (owQ at0 ow (looseSum (cutsR M keep j) + (rr + 1))) ++ B)) ?_ (by rw [hrs2]; exact sub_)
              | refine WX.re (O' := rdO r rb rf M ws (rowsO (owQ at0 ow (looseSum (cutsR M keep j) + (rr + 1))) ++ B)) ?_ (by rw [← Nat.add_assoc, owQ_same (by omega)]; exact fun _ hs => hs)
              refine WX.region rfl ?_
              refine WXL.move Met.none rfl ?_
              refine WXL.bin Met.none rfl rfl bvS ?_
              refine WXL.assign Met.none rfl ?_
              refine WXL.nil ?_
              refine Fin.block_normal ?_
              refine Fin.then_normal ?_
              refine WX.region rfl ?_
              refine WXL.move Met.none rfl ?_
              refine WXL.bin Met.none rfl rfl bvA ?_
              refine WXL.assign Met.none rfl ?_
              refine WXL.nil ?_
              exact Fin.loop_next (rr + 1) (by omega) (by omega) (fun s hs => hs.tl [] 0)
          · try simp only [cnd] at hc4
            refine WX.exit ?_
            refine Fin.then_exit ?_
            refine Fin.loop_exit ?_
            refine Fin.block_hit rfl ?_
            refine Fin.block_normal ?_
            refine Fin.then_normal ?_
            have hre : rr = looseN o.f := by omega
            subst hre
            rw [← hsj]
            refine WX.region rfl ?_
            refine WXL.move Met.none rfl ?_
            refine WXL.bin Met.none rfl rfl bvA ?_
            refine WXL.assign Met.none rfl ?_
            refine WXL.nil ?_
            exact Fin.loop_next (j + 1) (by omega) (by omega) (fun s hs => hs.tl [] 0)
        · try simp only [cnd] at hc3
          refine WX.exit ?_
          refine Fin.then_exit ?_
          refine Fin.loop_exit ?_
          refine Fin.block_hit rfl ?_
          refine Fin.then_normal ?_
          refine WX.seq ?_
          refine WX.seq ?_
          have hje : j = (filesR M).length := by omega
          rw [hje, ← hS]
          have hVF : CrV M vs (crashCR M keep flip) (owQ at0 ow S) ws := by
            rw [hcr]
            unfold owQ
            rcases hat2 with h1 | ⟨h1, h2⟩
            · rw [if_neg (by omega), if_neg (by omega)]; exact hV
            · rw [if_pos h1, if_pos (by omega)]; exact hV.flip _ _
          have hIF := crashR_I h hVF
          obtain ⟨M3, hM3⟩ : ∃ M3 : Rd, M3 = ⟨M.room, (crashR M keep flip).B, M.F, M.off, M.plan⟩ := ⟨_, rfl⟩
          have hF3 : M3.F.length = 64 := by rw [hM3]; exact h.lenF
          generalize owQ at0 ow S = owF at hVF hIF ⊢
          refine WX.region rfl ?_
          refine WXL.assign Met.none rfl ?_
          refine WXL.nil ?_
          refine Fin.then_normal ?_
          refine WX.block ?_
          refine WX.re (O' := rdO r rb rf ⟨M.room, M.B, firmI M3 0, M.off, M.plan⟩ ws (rowsO owF ++ B)) ?_ (by rw [show firmI M3 0 = M.F from by rw [hM3]; rfl]; exact fun _ hs => hs)
          refine WX.loop (fun i : Nat => [(0, Ptr r 0), (16, I (i : Int))]) (fun i => rdO r rb rf ⟨M.room, M.B, firmI M3 i, M.off, M.plan⟩ ws (rowsO owF ++ B)) (fun i => i ≤ 64) (fun i => 64 - i) 0 (by decide) (fun s hs => hs.tl [] 0) (fun i hi => ?_)
          refine WX.seq ?_
          refine WX.seq ?_
          refine WX.region rfl ?_
          refine WXL.move Met.none rfl ?_
          refine WXL.bin Met.none rfl rfl rfl ?_
          refine WXL.nil ?_
          refine Fin.then_normal ?_
          refine WX.cond rfl (fun hc6 => ?_) (fun hc6 => ?_)
          · try simp only [cnd] at hc6
            refine WX.skip ?_
            refine Fin.then_normal ?_
            refine WX.seq ?_
            refine WX.block ?_
            have hi64 : i < 64 := by omega
            obtain ⟨a, c, ev, _⟩ := hIF.file i hi64
            have hv : ws[i]? = some (.slice a (nth (crashR M keep flip).B i).length c) := by rw [← ev]; exact nth_eq (by rw [hVF.len]; exact hi64)
            have hfl3 := firmI_len hF3 (i := i) (by omega)
            have hl3 : lenR M3 i = ((nth (crashR M keep flip).B i).length : Nat) := by unfold lenR; rw [hM3]
            refine WX.draw rfl ?_
            refine WXL.move Met.none rfl ?_
            refine WXL.nilCheck Met.none rfl ?_
            first | refine WXL.fieldAddr Met.none rfl Try.underlying58 rfl sz33 rfl ?_ | refine WXL.faS Met.none rfl Try.underlying58 rfl sz33 ?_
            first | refine WXL.ld Met.none rfl agg33 ?_ | refine WXL.ldS Met.none rfl agg33 ?_
            refine WXL.move Met.none rfl ?_
            refine WXL.move Met.none rfl ?_
            refine WXL.nilCheck Met.none rfl ?_
            first | refine WXL.fieldAddr Met.none rfl Try.underlying58 rfl sz22 rfl ?_ | refine WXL.faS Met.none rfl Try.underlying58 rfl sz22 ?_
            first | refine WXL.ld Met.none rfl agg22 ?_ | refine WXL.ldS Met.none rfl agg22 ?_
            refine WXL.move Met.none rfl ?_
            first | refine WXL.ix Met.none rfl rfl elem22 sz27 ?_ | refine WXL.ixS Met.none rfl rfl elem22 sz27 ?_
            first | refine WXL.ld Met.none rfl agg27 ?_ (hv := hv) | refine WXL.ldS Met.none rfl agg27 ?_ (hv := hv)
            refine WXL.len Met.none rfl Try.underlying27 ?_
            first | refine WXL.ix Met.none rfl rfl elem33 sz3 ?_ | refine WXL.ixS Met.none rfl rfl elem33 sz3 ?_
            refine WXL.st (vs := [_]) (j := 2) Met.none rfl rfl rfl sz3 ?_ (hj := rfl) (hl := (by rw [List.length_map, hfl3]; show i + 1 ≤ 64; omega)) (hc := (show splice (List.map I (firmI M3 i)) i [I (((nth (crashR M keep flip).B i).length : Nat) : Int)] = List.map I ((firmI M3 i).set i (lenR M3 i)) from by rw [hl3]; exact splice_map I _ i _ (by rw [hfl3]; exact hi64)))
            refine WXL.nil ?_
            refine Fin.block_normal ?_
            refine Fin.then_normal ?_
            refine WX.region rfl ?_
            refine WXL.move Met.none rfl ?_
            refine WXL.bin Met.none rfl rfl bvA ?_
            refine WXL.assign Met.none rfl ?_
            refine WXL.nil ?_
            exact Fin.loop_next (i + 1) (by omega) (by omega) (fun s hs => by rw [← firmI_set hF3 hi64]; exact hs.tl [] 0)
          · try simp only [cnd] at hc6
            refine WX.exit ?_
            refine Fin.then_exit ?_
            refine Fin.loop_exit ?_
            refine Fin.block_hit rfl ?_
            refine Fin.then_normal ?_
            refine WX.seq ?_
            have hi6 : i = 64 := by omega
            rw [hi6, firmI_all hF3]
            refine WX.region rfl ?_
            refine WXL.move Met.none rfl ?_
            refine WXL.nilCheck Met.none rfl ?_
            first | refine WXL.fieldAddr Met.none rfl Try.underlying58 rfl sz4 rfl ?_ | refine WXL.faS Met.none rfl Try.underlying58 rfl sz4 ?_
            refine WXL.st (vs := [_]) (j := 0) Met.none rfl rfl rfl sz4 ?_ (hj := rfl)
            refine WXL.nil ?_
            refine Fin.then_normal ?_
            refine WX.region rfl ?_
            refine WXL.move Met.none rfl ?_
            refine WXL.nilCheck Met.none rfl ?_
            first | refine WXL.fieldAddr Met.none rfl Try.underlying58 rfl sz3 rfl ?_ | refine WXL.faS Met.none rfl Try.underlying58 rfl sz3 ?_
            refine WXL.st (vs := [_]) (j := 0) Met.none rfl rfl rfl sz3 ?_ (hj := rfl)
            refine WXL.nil ?_
            exact Fin.result (O' := rdO r rb rf ⟨M.room, (crashR M keep flip).B, (crashR M keep flip).F, false, -1⟩ ws (rowsO owF ++ R)) (.inl rfl) rfl rfl (by
              have e1 : (List.range 64).map (lenR M3) = (crashR M keep flip).F := by
                show (List.range 64).map (lenR M3) = (List.range 64).map fun n => ((((mget ((n : Nat) : Int) (crashCR M keep flip)).getD ⟨[], 0⟩).bs.length : Nat) : Int)
                refine List.map_congr_left fun n hn => ?_
                have hn := List.mem_range.1 hn
                unfold lenR
                rw [hM3]
                show (((nth ((List.range 64).map fun n => ((mget ((n : Nat) : Int) (crashCR M keep flip)).getD ⟨[], 0⟩).bs) n).length : Nat) : Int) = _
                rw [nth_map_range _ hn]
              rw [e1, hB]
              intro g hg
              have hg2 : Sat g (rdO r rb rf ⟨M.room, (crashR M keep flip).B, (crashR M keep flip).F, false, -1⟩ ws (rowsO owF ++ (Gf ++ R))) := hg
              exact hg2.sub (by intro Q; simp only [List.countP_append, List.countP_cons]; omega)) ⟨ws, rowsO owF, rfl, hIF⟩
      · try simp only [cnd] at hc2
        obtain ⟨at0, hat, hat2, hcr⟩ : ∃ at0 : Int, at0 = -1 ∧ (at0 = -1 ∨ (0 ≤ at0 ∧ at0 < 8 * (S : Int))) ∧ crashCR M keep flip = (if 0 ≤ at0 then flipC (at0.toNat / 8) (7 - at0.toNat % 8) (cutsR M keep (filesR M).length) else cutsR M keep (filesR M).length) := ⟨-1, rfl, .inl rfl, by
          unfold crashCR
          simp only
          rw [← hS, if_neg (show ¬ (0 ≤ flip ∧ 0 < 8 * S) by omega), if_neg (show ¬ (0 : Int) ≤ -1 by decide)]⟩
        refine WX.skip ?_
        refine Fin.then_normal ?_
        refine WX.seq ?_
        refine WX.seq ?_
        have hkeys : ow.map (·.n) = (filesR M).map fun n => ((n : Nat) : Int) := by
          have e1 : ow.map (·.n) = (cutsR M keep (filesR M).length).map (·.1) := by rw [← hV.nf, List.map_map]; rfl
          rw [e1, cutsR_keys M keep (Nat.le_refl _), List.take_length]
        have howl : ow.length = (filesR M).length := by
          have := congrArg List.length hkeys
          simpa using this
        refine WX.region rfl ?_
        refine WXL.assign Met.none rfl ?_
        refine WXL.nil ?_
        refine Fin.then_normal ?_
        refine WX.block ?_
        refine WX.re (O' := rdO r rb rf M ws (rowsO (owQ at0 ow (looseSum (cutsR M keep 0))) ++ B)) ?_ (by rw [show owQ at0 ow (looseSum (cutsR M keep 0)) = ow from by unfold owQ; rw [if_neg (by show ¬ (0 ≤ at0 ∧ at0.toNat / 8 < 0); omega)]]; exact fun _ hs => hs)
        refine WX.loop (fun j : Nat => [(0, Ptr r 0), (6, .slice a6 (filesR M).length c6), (12, I (at0 - 8 * ((looseSum (cutsR M keep j) : Nat) : Int))), (13, I (j : Int))]) (fun j => rdO r rb rf M ws (rowsO (owQ at0 ow (looseSum (cutsR M keep j))) ++ B)) (fun j => j ≤ (filesR M).length) (fun j => (filesR M).length - j) 0 (Nat.zero_le _) (fun s hs => by rw [show ((looseSum (cutsR M keep 0) : Nat) : Int) = 0 from rfl]; exact hs.tl [] 0) (fun j hj => ?_)
        have hlj := looseR_le h keep j hj
        refine WX.seq ?_
        refine WX.seq ?_
        refine WX.region rfl ?_
        refine WXL.move Met.none rfl ?_
        refine WXL.move Met.none rfl ?_
        refine WXL.len Met.none rfl Try.underlying33 ?_
        refine WXL.bin Met.none rfl rfl rfl ?_
        refine WXL.nil ?_
        refine Fin.then_normal ?_
        refine WX.cond rfl (fun hc3 => ?_) (fun hc3 => ?_)
        · try simp only [cnd] at hc3
          refine WX.skip ?_
          refine Fin.then_normal ?_
          refine WX.seq ?_
          refine WX.block ?_
          refine WX.seq ?_
          have hjk : j < (filesR M).length := by omega
          obtain ⟨f, hf⟩ : ∃ f, f = nth (filesR M) j := ⟨_, rfl⟩
          have hfm : f ∈ filesR M := hf ▸ nth_mem hjk
          have hf64' := (filesR_mem.1 hfm).1
          have hFf : f < M.F.length := by rw [h.lenF]; exact hf64'
          have hfd := h.firm f hf64'
          obtain ⟨dn, hdn⟩ : ∃ dn : Nat, nth M.F f = ((dn : Nat) : Int) := ⟨(nth M.F f).toNat, by omega⟩
          obtain ⟨o, ho⟩ : ∃ o : OwnF, o = ow[j]'(by omega) := ⟨_, rfl⟩
          have hom : o ∈ ow := ho ▸ List.getElem_mem _
          have honf : OwnF.nf o = cutAtR M keep j := by
            have h1 : (ow.map OwnF.nf)[j]'(by rw [List.length_map]; omega) = OwnF.nf o := by rw [List.getElem_map, ho]
            rw [← h1]
            simp only [hV.nf, cutsR, List.getElem_map, List.getElem_range]
          have hon : o.n = ((f : Nat) : Int) := by
            have := congrArg Prod.fst honf
            rw [hf]
            exact this
          have hof : o.f = cutF keep j (fiR M f) := by
            have := congrArg Prod.snd honf
            rw [hf]
            exact this
          have hod : o.f.d = ((dn : Nat) : Int) := by rw [hof, ← hdn]; rfl
          obtain ⟨hoG, hoB, _, hov⟩ := hV.row o hom
          rw [hon, Int.toNat_natCast] at hov
          have hwf : ws[f]? = some (.slice o.a o.f.bs.length o.c) := by rw [← hov]; exact nth_eq (by rw [hV.len]; exact hf64')
          have hocl := cutR_len h keep hf64' j
          rw [← hof] at hocl
          have hflen := h.len hf64'
          have hln : looseN o.f = o.f.bs.length - dn := by unfold looseN; rw [hod, Int.toNat_natCast]
          have hsj : looseSum (cutsR M keep (j + 1)) = looseSum (cutsR M keep j) + looseN o.f := by
            rw [cutsR_succ, looseSum_app, ← honf]
            rfl
          have hsplit : ow = ow.take j ++ o :: ow.drop (j + 1) := by rw [ho, List.getElem_cons_drop, List.take_append_drop]
          have hst : looseSum ((ow.take j).map OwnF.nf) = looseSum (cutsR M keep j) := by
            rw [List.map_take, hV.nf]
            unfold cutsR
            rw [← List.map_take, List.take_range, Nat.min_eq_left (by omega)]
          refine WX.region rfl ?_
          refine WXL.move Met.none rfl ?_
          refine WXL.move Met.none rfl ?_
          first | refine WXL.ix Met.none rfl rfl elem33 sz3 ?_ | refine WXL.ixS Met.none rfl rfl elem33 sz3 ?_
          first | refine WXL.ld Met.none rfl agg3 ?_ (hv := (show (castV (filesR M))[j]? = some (I ((f : Nat) : Int)) from by unfold castV; rw [hf]; exact cell_map _ _ _ hjk)) | refine WXL.ldS Met.none rfl agg3 ?_ (hv := (show (castV (filesR M))[j]? = some (I ((f : Nat) : Int)) from by unfold castV; rw [hf]; exact cell_map _ _ _ hjk))
          refine WXL.assign Met.none rfl ?_
          refine WXL.nil ?_
          refine Fin.then_normal ?_
          refine WX.seq ?_
          refine WX.region rfl ?_
          refine WXL.move Met.none rfl ?_
          refine WXL.nilCheck Met.none rfl ?_
          first | refine WXL.fieldAddr Met.none rfl Try.underlying58 rfl sz33 rfl ?_ | refine WXL.faS Met.none rfl Try.underlying58 rfl sz33 ?_
          first | refine WXL.ld Met.none rfl agg33 ?_ | refine WXL.ldS Met.none rfl agg33 ?_
          refine WXL.move Met.none rfl ?_
          first | refine WXL.ix Met.none rfl rfl elem33 sz3 ?_ | refine WXL.ixS Met.none rfl rfl elem33 sz3 ?_
          first | refine WXL.ld Met.none rfl agg3 ?_ (hv := (cell_map I _ f hFf)) | refine WXL.ldS Met.none rfl agg3 ?_ (hv := (cell_map I _ f hFf))
          refine WXL.assign Met.none rfl ?_
          refine WXL.nil ?_
          refine Fin.then_normal ?_
          refine WX.block ?_
          refine WX.loop (fun rr : Nat => [(0, Ptr r 0), (6, .slice a6 (filesR M).length c6), (12, I (at0 - 8 * (((looseSum (cutsR M keep j) + rr : Nat)) : Int))), (13, I (j : Int)), (14, I (f : Int)), (15, I ((dn + rr : Nat) : Int))]) (fun rr => rdO r rb rf M ws (rowsO (owQ at0 ow (looseSum (cutsR M keep j) + rr)) ++ B)) (fun rr => rr ≤ looseN o.f) (fun rr => looseN o.f - rr) 0 (Nat.zero_le _) (fun s hs => hs.tl [] 0) (fun rr hrr => ?_)
          refine WX.seq ?_
          refine WX.seq ?_
          refine WX.region rfl ?_
          refine WXL.move Met.none rfl ?_
          refine WXL.move Met.none rfl ?_
          refine WXL.nilCheck Met.none rfl ?_
          first | refine WXL.fieldAddr Met.none rfl Try.underlying58 rfl sz22 rfl ?_ | refine WXL.faS Met.none rfl Try.underlying58 rfl sz22 ?_
          first | refine WXL.ld Met.none rfl agg22 ?_ | refine WXL.ldS Met.none rfl agg22 ?_
          refine WXL.move Met.none rfl ?_
          first | refine WXL.ix Met.none rfl rfl elem22 sz27 ?_ | refine WXL.ixS Met.none rfl rfl elem22 sz27 ?_
          first | refine WXL.ld Met.none rfl agg27 ?_ (hv := hwf) | refine WXL.ldS Met.none rfl agg27 ?_ (hv := hwf)
          refine WXL.len Met.none rfl Try.underlying27 ?_
          refine WXL.bin Met.none rfl rfl rfl ?_
          refine WXL.nil ?_
          refine Fin.then_normal ?_
          refine WX.cond rfl (fun hc4 => ?_) (fun hc4 => ?_)
          · try simp only [cnd] at hc4
            refine WX.skip ?_
            refine Fin.then_normal ?_
            refine WX.seq ?_
            refine WX.block ?_
            refine WX.seq ?_
            refine WX.seq ?_
            refine WX.region rfl ?_
            refine WXL.move Met.none rfl ?_
            refine WXL.bin Met.none rfl rfl rfl ?_
            refine WXL.move Met.none rfl ?_
            refine WXL.split (d := 124) rfl (fun hg124 => ?_) (fun hg124 => ?_)
            · try simp only [cnd] at hg124
              refine WXL.move (Met.some rfl rfl rfl) rfl ?_
              refine WXL.bin (Met.some rfl rfl rfl) rfl rfl rfl ?_
              refine WXL.pick_t Met.none rfl rfl ?_
              refine WXL.nil ?_
              refine Fin.then_normal ?_
              refine WX.cond rfl (fun hc5 => ?_) (fun hc5 => ?_)
              · try simp only [cnd] at hc5
                have hrl : rr < looseN o.f := by omega
                have ha0 : 0 ≤ at0 := by omega
                have hp : at0.toNat / 8 = looseSum (cutsR M keep j) + rr := by omega
                obtain ⟨q1, q2⟩ := owQ_here (ow := ow) ha0 hp
                obtain ⟨b, hoa, hoGe⟩ : ∃ b, o.a = some ⟨b, 0, none⟩ ∧ o.G = [(b, ⟨1, false, o.f.bs.map B8⟩)] := by
                  rcases hoG with ⟨_, h0, _⟩ | ⟨b, h1, h2, _⟩
                  · omega
                  · exact ⟨b, h1, h2⟩
                have hrs : rowsO (owQ at0 ow (looseSum (cutsR M keep j) + rr)) = rowsO (ow.take j) ++ ([(b, ⟨1, false, o.f.bs.map B8⟩)] ++ rowsO (ow.drop (j + 1))) := by
                  rw [q1]
                  conv => lhs; rw [hsplit]
                  rw [rowsO_app, rowsO_cons, hoGe]
                have hzl : dn + rr < o.f.bs.length := by omega
                have hwf2 : ws[f]? = some (.slice (some ⟨b, 0, none⟩) o.f.bs.length o.c) := by rw [← hoa]; exact hwf
                have hk7 : (7 : Int) - (at0 - 8 * (((looseSum (cutsR M keep j) + rr : Nat)) : Int)) = ((7 - at0.toNat % 8 : Nat) : Int) := by omega
                have hrs2 : rowsO (owQ at0 ow (looseSum (cutsR M keep j) + (rr + 1))) = rowsO (ow.take j) ++ ([(b, ⟨1, false, (o.f.bs.set (dn + rr) (flipB (nth o.f.bs (dn + rr)) (7 - at0.toNat % 8))).map B8⟩)] ++ rowsO (ow.drop (j + 1))) := by
                  rw [← Nat.add_assoc, q2]
                  conv => lhs; rw [hsplit, ← hst]
                  rw [flipOw_at _ rr hrl, rowsO_app, rowsO_cons]
                  congr 1
                  unfold flipO
                  simp only [hoa, hod, Int.toNat_natCast]
                rw [hrs]
                refine WX.re (O' := (b, ⟨1, false, o.f.bs.map B8⟩) :: rdO r rb rf M ws ((rowsO (ow.take j) ++ rowsO (ow.drop (j + 1))) ++ B)) ?_
                refine WX.draw rfl ?_
                refine WXL.move Met.none rfl ?_
                refine WXL.nilCheck Met.none rfl ?_
                first | refine WXL.fieldAddr Met.none rfl Try.underlying58 rfl sz22 rfl ?_ | refine WXL.faS Met.none rfl Try.underlying58 rfl sz22 ?_
                first | refine WXL.ld Met.none rfl agg22 ?_ | refine WXL.ldS Met.none rfl agg22 ?_
                refine WXL.move Met.none rfl ?_
                first | refine WXL.ix Met.none rfl rfl elem22 sz27 ?_ | refine WXL.ixS Met.none rfl rfl elem22 sz27 ?_
                first | refine WXL.ld Met.none rfl agg27 ?_ (hv := hwf2) | refine WXL.ldS Met.none rfl agg27 ?_ (hv := hwf2)
                refine WXL.move Met.none rfl ?_
                refine WXL.move Met.none rfl ?_
                refine WXL.nilCheck Met.none rfl ?_
                first | refine WXL.fieldAddr Met.none rfl Try.underlying58 rfl sz22 rfl ?_ | refine WXL.faS Met.none rfl Try.underlying58 rfl sz22 ?_
                first | refine WXL.ld Met.none rfl agg22 ?_ | refine WXL.ldS Met.none rfl agg22 ?_
                refine WXL.move Met.none rfl ?_
                first | refine WXL.ix Met.none rfl rfl elem22 sz27 ?_ | refine WXL.ixS Met.none rfl rfl elem22 sz27 ?_
                first | refine WXL.ld Met.none rfl agg27 ?_ (hv := hwf2) | refine WXL.ldS Met.none rfl agg27 ?_ (hv := hwf2)
                refine WXL.move Met.none rfl ?_
                first | refine WXL.ix Met.none rfl rfl elem27 sz5 ?_ | refine WXL.ixS Met.none rfl rfl elem27 sz5 ?_
                first | refine WXL.ld Met.none rfl agg5 ?_ (hv := (cell_map _ _ _ hzl)) | refine WXL.ldS Met.none rfl agg5 ?_ (hv := (cell_map _ _ _ hzl))
                refine WXL.move Met.none rfl ?_
                refine WXL.bin Met.none rfl rfl bvS ?_
                rw [hk7]
                refine WXL.conv Met.none rfl Try.underlying3 Try.underlying77 (wrap_u64 (by omega) (by omega)) ?_
                refine WXL.shl Met.none rfl rfl (by omega) ?_
                refine WXL.bin Met.none rfl rfl (show _ = some (B8 (flipB (nth o.f.bs (dn + rr)) (7 - at0.toNat % 8))) from rfl) ?_
                first | refine WXL.ix Met.none rfl rfl elem27 sz5 ?_ | refine WXL.ixS Met.none rfl rfl elem27 sz5 ?_
                refine WXL.st (vs := [_]) (j := 0) Met.none rfl rfl rfl sz5 ?_ (hj := rfl)
                refine WXL.nil ?_
                refine Fin.then_normal ?_
                first
                | refine WX.re (O' := rdO r rb rf M ws (rowsO (owQ at0 ow (looseSum (cutsR M keep j) + (rr + 1))) ++ B)) ?_ (by rw [hrs2]; exact sub_)
                | refine WX.re (O' := rdO r rb rf M ws (rowsO (owQ at0 ow (looseSum (cutsR M keep j) + (rr + 1))) ++ B)) ?_ (by rw [← Nat.add_assoc, owQ_same (by omega)]; exact fun _ hs => hs)
                refine WX.region rfl ?_
                refine WXL.move Met.none rfl ?_
                refine WXL.bin Met.none rfl rfl bvS ?_
                refine WXL.assign Met.none rfl ?_
                refine WXL.nil ?_
                refine Fin.block_normal ?_
                refine Fin.then_normal ?_
                refine WX.region rfl ?_
                refine WXL.move Met.none rfl ?_
                refine WXL.bin Met.none rfl rfl bvA ?_
                refine WXL.assign Met.none rfl ?_
                refine WXL.nil ?_
                exact Fin.loop_next (rr + 1) (by omega) (by omega) (fun s hs => hs.tl [] 0)
              · try simp only [cnd] at hc5
                refine WX.skip ?_
                refine Fin.then_normal ?_
                first
                | refine WX.re (O' := rdO r rb rf M ws (rowsO (owQ at0 ow (looseSum (cutsR M keep j) + (rr + 1))) ++ B)) ?_ (by rw [hrs2]; exact sub_)
                | refine WX.re (O' := rdO r rb rf M ws (rowsO (owQ at0 ow (looseSum (cutsR M keep j) + (rr + 1))) ++ B)) ?_ (by rw [← Nat.add_assoc, owQ_same (by omega)]; exact fun _ hs => hs)
                refine WX.region rfl ?_
                refine WXL.move Met.none rfl ?_
                refine WXL.bin Met.none rfl rfl bvS ?_
                refine WXL.assign Met.none rfl ?_
                refine WXL.nil ?_
                refine Fin.block_normal ?_
                refine Fin.then_normal ?_
                refine WX.region rfl ?_
                refine WXL.move Met.none rfl ?_
                refine WXL.bin Met.none rfl rfl bvA ?_
                refine WXL.assign Met.none rfl ?_
                refine WXL.nil ?_
                exact Fin.loop_next (rr + 1) (by omega) (by omega) (fun s hs => hs.tl [] 0)
            · try simp only [cnd] at hg124
              refine WXL.miss (j := 2) (d := 124) rfl rfl rfl ?_
              refine WXL.miss (j := 2) (d := 124) rfl rfl rfl ?_
              refine WXL.pick_f Met.none rfl rfl ?_
              refine WXL.nil ?_
              refine Fin.then_normal ?_
              refine WX.cond rfl (fun hc5 => nomatch hc5) (fun hc5 => ?_)
              refine WX.skip ?_
              refine Fin.then_normal ?_
              first
              | refine WX.re (O' := rdO r rb rf M ws (rowsO (owQ at0 ow (looseSum (cutsR M keep j) + (rr + 1))) ++ B)) ?_ (by rw [hrs2]; exact sub_)
              | refine WX.re (O' := rdO r rb rf M ws (rowsO (owQ at0 ow (looseSum (cutsR M keep j) + (rr + 1))) ++ B)) ?_ (by rw [← Nat.add_assoc, owQ_same (by omega)]; exact fun _ hs => hs)
              refine WX.region rfl ?_
              refine WXL.move Met.none rfl ?_
              refine WXL.bin Met.none rfl rfl bvS ?_
              refine WXL.assign Met.none rfl ?_
              refine WXL.nil ?_
              refine Fin.block_normal ?_
              refine Fin.then_normal ?_
              refine WX.region rfl ?_
              refine WXL.move Met.none rfl ?_
              refine WXL.bin Met.none rfl rfl bvA ?_
              refine WXL.assign Met.none rfl ?_
              refine WXL.nil ?_
              exact Fin.loop_next (rr + 1) (by omega) (by omega) (fun s hs => hs.tl [] 0)
          · try simp only [cnd] at hc4
            refine WX.exit ?_
            refine Fin.then_exit ?_
            refine Fin.loop_exit ?_
            refine Fin.block_hit rfl ?_
            refine Fin.block_normal ?_
            refine Fin.then_normal ?_
            have hre : rr = looseN o.f := by omega
            subst hre
            rw [← hsj]
            refine WX.region rfl ?_
            refine WXL.move Met.none rfl ?_
            refine WXL.bin Met.none rfl rfl bvA ?_
            refine WXL.assign Met.none rfl ?_
            refine WXL.nil ?_
            exact Fin.loop_next (j + 1) (by omega) (by omega) (fun s hs => hs.tl [] 0)
        · try simp only [cnd] at hc3
          refine WX.exit ?_
          refine Fin.then_exit ?_
          refine Fin.loop_exit ?_
          refine Fin.block_hit rfl ?_
          refine Fin.then_normal ?_
          refine WX.seq ?_
          refine WX.seq ?_
          have hje : j = (filesR M).length := by omega
          rw [hje, ← hS]
          have hVF : CrV M vs (crashCR M keep flip) (owQ at0 ow S) ws := by
            rw [hcr]
            unfold owQ
            rcases hat2 with h1 | ⟨h1, h2⟩
            · rw [if_neg (by omega), if_neg (by omega)]; exact hV
            · rw [if_pos h1, if_pos (by omega)]; exact hV.flip _ _
          have hIF := crashR_I h hVF
          obtain ⟨M3, hM3⟩ : ∃ M3 : Rd, M3 = ⟨M.room, (crashR M keep flip).B, M.F, M.off, M.plan⟩ := ⟨_, rfl⟩
          have hF3 : M3.F.length = 64 := by rw [hM3]; exact h.lenF
          generalize owQ at0 ow S = owF at hVF hIF ⊢
          refine WX.region rfl ?_
          refine WXL.assign Met.none rfl ?_
          refine WXL.nil ?_
          refine Fin.then_normal ?_
          refine WX.block ?_
          refine WX.re (O' := rdO r rb rf ⟨M.room, M.B, firmI M3 0, M.off, M.plan⟩ ws (rowsO owF ++ B)) ?_ (by rw [show firmI M3 0 = M.F from by rw [hM3]; rfl]; exact fun _ hs => hs)
          refine WX.loop (fun i : Nat => [(0, Ptr r 0), (16, I (i : Int))]) (fun i => rdO r rb rf ⟨M.room, M.B, firmI M3 i, M.off, M.plan⟩ ws (rowsO owF ++ B)) (fun i => i ≤ 64) (fun i => 64 - i) 0 (by decide) (fun s hs => hs.tl [] 0) (fun i hi => ?_)
          refine WX.seq ?_
          refine WX.seq ?_
          refine WX.region rfl ?_
          refine WXL.move Met.none rfl ?_
          refine WXL.bin Met.none rfl rfl rfl ?_
          refine WXL.nil ?_
          refine Fin.then_normal ?_
          refine WX.cond rfl (fun hc6 => ?_) (fun hc6 => ?_)
          · try simp only [cnd] at hc6
            refine WX.skip ?_
            refine Fin.then_normal ?_
            refine WX.seq ?_
            refine WX.block ?_
            have hi64 : i < 64 := by omega
            obtain ⟨a, c, ev, _⟩ := hIF.file i hi64
            have hv : ws[i]? = some (.slice a (nth (crashR M keep flip).B i).length c) := by rw [← ev]; exact nth_eq (by rw [hVF.len]; exact hi64)
            have hfl3 := firmI_len hF3 (i := i) (by omega)
            have hl3 : lenR M3 i = ((nth (crashR M keep flip).B i).length : Nat) := by unfold lenR; rw [hM3]
            refine WX.draw rfl ?_
            refine WXL.move Met.none rfl ?_
            refine WXL.nilCheck Met.none rfl ?_
            first | refine WXL.fieldAddr Met.none rfl Try.underlying58 rfl sz33 rfl ?_ | refine WXL.faS Met.none rfl Try.underlying58 rfl sz33 ?_
            first | refine WXL.ld Met.none rfl agg33 ?_ | refine WXL.ldS Met.none rfl agg33 ?_
            refine WXL.move Met.none rfl ?_
            refine WXL.move Met.none rfl ?_
            refine WXL.nilCheck Met.none rfl ?_
            first | refine WXL.fieldAddr Met.none rfl Try.underlying58 rfl sz22 rfl ?_ | refine WXL.faS Met.none rfl Try.underlying58 rfl sz22 ?_
            first | refine WXL.ld Met.none rfl agg22 ?_ | refine WXL.ldS Met.none rfl agg22 ?_
            refine WXL.move Met.none rfl ?_
            first | refine WXL.ix Met.none rfl rfl elem22 sz27 ?_ | refine WXL.ixS Met.none rfl rfl elem22 sz27 ?_
            first | refine WXL.ld Met.none rfl agg27 ?_ (hv := hv) | refine WXL.ldS Met.none rfl agg27 ?_ (hv := hv)
            refine WXL.len Met.none rfl Try.underlying27 ?_
            first | refine WXL.ix Met.none rfl rfl elem33 sz3 ?_ | refine WXL.ixS Met.none rfl rfl elem33 sz3 ?_
            refine WXL.st (vs := [_]) (j := 2) Met.none rfl rfl rfl sz3 ?_ (hj := rfl) (hl := (by rw [List.length_map, hfl3]; show i + 1 ≤ 64; omega)) (hc := (show splice (List.map I (firmI M3 i)) i [I (((nth (crashR M keep flip).B i).length : Nat) : Int)] = List.map I ((firmI M3 i).set i (lenR M3 i)) from by rw [hl3]; exact splice_map I _ i _ (by rw [hfl3]; exact hi64)))
            refine WXL.nil ?_
            refine Fin.block_normal ?_
            refine Fin.then_normal ?_
            refine WX.region rfl ?_
            refine WXL.move Met.none rfl ?_
            refine WXL.bin Met.none rfl rfl bvA ?_
            refine WXL.assign Met.none rfl ?_
            refine WXL.nil ?_
            exact Fin.loop_next (i + 1) (by omega) (by omega) (fun s hs => by rw [← firmI_set hF3 hi64]; exact hs.tl [] 0)
          · try simp only [cnd] at hc6
            refine WX.exit ?_
            refine Fin.then_exit ?_
            refine Fin.loop_exit ?_
            refine Fin.block_hit rfl ?_
            refine Fin.then_normal ?_
            refine WX.seq ?_
            have hi6 : i = 64 := by omega
            rw [hi6, firmI_all hF3]
            refine WX.region rfl ?_
            refine WXL.move Met.none rfl ?_
            refine WXL.nilCheck Met.none rfl ?_
            first | refine WXL.fieldAddr Met.none rfl Try.underlying58 rfl sz4 rfl ?_ | refine WXL.faS Met.none rfl Try.underlying58 rfl sz4 ?_
            refine WXL.st (vs := [_]) (j := 0) Met.none rfl rfl rfl sz4 ?_ (hj := rfl)
            refine WXL.nil ?_
            refine Fin.then_normal ?_
            refine WX.region rfl ?_
            refine WXL.move Met.none rfl ?_
            refine WXL.nilCheck Met.none rfl ?_
            first | refine WXL.fieldAddr Met.none rfl Try.underlying58 rfl sz3 rfl ?_ | refine WXL.faS Met.none rfl Try.underlying58 rfl sz3 ?_
            refine WXL.st (vs := [_]) (j := 0) Met.none rfl rfl rfl sz3 ?_ (hj := rfl)
            refine WXL.nil ?_
            exact Fin.result (O' := rdO r rb rf ⟨M.room, (crashR M keep flip).B, (crashR M keep flip).F, false, -1⟩ ws (rowsO owF ++ R)) (.inl rfl) rfl rfl (by
              have e1 : (List.range 64).map (lenR M3) = (crashR M keep flip).F := by
                show (List.range 64).map (lenR M3) = (List.range 64).map fun n => ((((mget ((n : Nat) : Int) (crashCR M keep flip)).getD ⟨[], 0⟩).bs.length : Nat) : Int)
                refine List.map_congr_left fun n hn => ?_
                have hn := List.mem_range.1 hn
                unfold lenR
                rw [hM3]
                show (((nth ((List.range 64).map fun n => ((mget ((n : Nat) : Int) (crashCR M keep flip)).getD ⟨[], 0⟩).bs) n).length : Nat) : Int) = _
                rw [nth_map_range _ hn]
              rw [e1, hB]
              intro g hg
              have hg2 : Sat g (rdO r rb rf ⟨M.room, (crashR M keep flip).B, (crashR M keep flip).F, false, -1⟩ ws (rowsO owF ++ (Gf ++ R))) := hg
              exact hg2.sub (by intro Q; simp only [List.countP_append, List.countP_cons]; omega)) ⟨ws, rowsO owF, rfl, hIF⟩
    · try simp only [cnd] at hg85
      obtain ⟨at0, hat, hat2, hcr⟩ : ∃ at0 : Int, at0 = -1 ∧ (at0 = -1 ∨ (0 ≤ at0 ∧ at0 < 8 * (S : Int))) ∧ crashCR M keep flip = (if 0 ≤ at0 then flipC (at0.toNat / 8) (7 - at0.toNat % 8) (cutsR M keep (filesR M).length) else cutsR M keep (filesR M).length) := ⟨-1, rfl, .inl rfl, by
        unfold crashCR
        simp only
        rw [← hS, if_neg (show ¬ (0 ≤ flip ∧ 0 < 8 * S) by omega), if_neg (show ¬ (0 : Int) ≤ -1 by decide)]⟩
      refine WXL.miss (j := 2) (d := 85) rfl rfl rfl ?_
      refine WXL.miss (j := 2) (d := 85) rfl rfl rfl ?_
      refine WXL.pick_f Met.none rfl rfl ?_
      refine WXL.nil ?_
      refine Fin.then_normal ?_
      refine WX.cond rfl (fun hc2 => nomatch hc2) (fun hc2 => ?_)
      refine WX.skip ?_
      refine Fin.then_normal ?_
      refine WX.seq ?_
      refine WX.seq ?_
      have hkeys : ow.map (·.n) = (filesR M).map fun n => ((n : Nat) : Int) := by
        have e1 : ow.map (·.n) = (cutsR M keep (filesR M).length).map (·.1) := by rw [← hV.nf, List.map_map]; rfl
        rw [e1, cutsR_keys M keep (Nat.le_refl _), List.take_length]
      have howl : ow.length = (filesR M).length := by
        have := congrArg List.length hkeys
        simpa using this
      refine WX.region rfl ?_
      refine WXL.assign Met.none rfl ?_
      refine WXL.nil ?_
      refine Fin.then_normal ?_
      refine WX.block ?_
      refine WX.re (O' := rdO r rb rf M ws (rowsO (owQ at0 ow (looseSum (cutsR M keep 0))) ++ B)) ?_ (by rw [show owQ at0 ow (looseSum (cutsR M keep 0)) = ow from by unfold owQ; rw [if_neg (by show ¬ (0 ≤ at0 ∧ at0.toNat / 8 < 0); omega)]]; exact fun _ hs => hs)
      refine WX.loop (fun j : Nat => [(0, Ptr r 0), (6, .slice a6 (filesR M).length c6), (12, I (at0 - 8 * ((looseSum (cutsR M keep j) : Nat) : Int))), (13, I (j : Int))]) (fun j => rdO r rb rf M ws (rowsO (owQ at0 ow (looseSum (cutsR M keep j))) ++ B)) (fun j => j ≤ (filesR M).length) (fun j => (filesR M).length - j) 0 (Nat.zero_le _) (fun s hs => by rw [show ((looseSum (cutsR M keep 0) : Nat) : Int) = 0 from rfl]; exact hs.tl [] 0) (fun j hj => ?_)
      have hlj := looseR_le h keep j hj
      refine WX.seq ?_
      refine WX.seq ?_
      refine WX.region rfl ?_
      refine WXL.move Met.none rfl ?_
      refine WXL.move Met.none rfl ?_
      refine WXL.len Met.none rfl Try.underlying33 ?_
      refine WXL.bin Met.none rfl rfl rfl ?_
      refine WXL.nil ?_
      refine Fin.then_normal ?_
      refine WX.cond rfl (fun hc3 => ?_) (fun hc3 => ?_)
      · try simp only [cnd] at hc3
        refine WX.skip ?_
        refine Fin.then_normal ?_
        refine WX.seq ?_
        refine WX.block ?_
        refine WX.seq ?_
        have hjk : j < (filesR M).length := by omega
        obtain ⟨f, hf⟩ : ∃ f, f = nth (filesR M) j := ⟨_, rfl⟩
        have hfm : f ∈ filesR M := hf ▸ nth_mem hjk
        have hf64' := (filesR_mem.1 hfm).1
        have hFf : f < M.F.length := by rw [h.lenF]; exact hf64'
        have hfd := h.firm f hf64'
        obtain ⟨dn, hdn⟩ : ∃ dn : Nat, nth M.F f = ((dn : Nat) : Int) := ⟨(nth M.F f).toNat, by omega⟩
        obtain ⟨o, ho⟩ : ∃ o : OwnF, o = ow[j]'(by omega) := ⟨_, rfl⟩
        have hom : o ∈ ow := ho ▸ List.getElem_mem _
        have honf : OwnF.nf o = cutAtR M keep j := by
          have h1 : (ow.map OwnF.nf)[j]'(by rw [List.length_map]; omega) = OwnF.nf o := by rw [List.getElem_map, ho]
          rw [← h1]
          simp only [hV.nf, cutsR, List.getElem_map, List.getElem_range]
        have hon : o.n = ((f : Nat) : Int) := by
          have := congrArg Prod.fst honf
          rw [hf]
          exact this
        have hof : o.f = cutF keep j (fiR M f) := by
          have := congrArg Prod.snd honf
          rw [hf]
          exact this
        have hod : o.f.d = ((dn : Nat) : Int) := by rw [hof, ← hdn]; rfl
        obtain ⟨hoG, hoB, _, hov⟩ := hV.row o hom
        rw [hon, Int.toNat_natCast] at hov
        have hwf : ws[f]? = some (.slice o.a o.f.bs.length o.c) := by rw [← hov]; exact nth_eq (by rw [hV.len]; exact hf64')
        have hocl := cutR_len h keep hf64' j
        rw [← hof] at hocl
        have hflen := h.len hf64'
        have hln : looseN o.f = o.f.bs.length - dn := by unfold looseN; rw [hod, Int.toNat_natCast]
        have hsj : looseSum (cutsR M keep (j + 1)) = looseSum (cutsR M keep j) + looseN o.f := by
          rw [cutsR_succ, looseSum_app, ← honf]
          rfl
        have hsplit : ow = ow.take j ++ o :: ow.drop (j + 1) := by rw [ho, List.getElem_cons_drop, List.take_append_drop]
        have hst : looseSum ((ow.take j).map OwnF.nf) = looseSum (cutsR M keep j) := by
          rw [List.map_take, hV.nf]
          unfold cutsR
          rw [← List.map_take, List.take_range, Nat.min_eq_left (by omega)]
        refine WX.region rfl ?_
        refine WXL.move Met.none rfl ?_
        refine WXL.move Met.none rfl ?_
        first | refine WXL.ix Met.none rfl rfl elem33 sz3 ?_ | refine WXL.ixS Met.none rfl rfl elem33 sz3 ?_
        first | refine WXL.ld Met.none rfl agg3 ?_ (hv := (show (castV (filesR M))[j]? = some (I ((f : Nat) : Int)) from by unfold castV; rw [hf]; exact cell_map _ _ _ hjk)) | refine WXL.ldS Met.none rfl agg3 ?_ (hv := (show (castV (filesR M))[j]? = some (I ((f : Nat) : Int)) from by unfold castV; rw [hf]; exact cell_map _ _ _ hjk))
        refine WXL.assign Met.none rfl ?_
        refine WXL.nil ?_
        refine Fin.then_normal ?_
        refine WX.seq ?_
        refine WX.region rfl ?_
        refine WXL.move Met.none rfl ?_
        refine WXL.nilCheck Met.none rfl ?_
        first | refine WXL.fieldAddr Met.none rfl Try.underlying58 rfl sz33 rfl ?_ | refine WXL.faS Met.none rfl Try.underlying58 rfl sz33 ?_
        first | refine WXL.ld Met.none rfl agg33 ?_ | refine WXL.ldS Met.none rfl agg33 ?_
        refine WXL.move Met.none rfl ?_
        first | refine WXL.ix Met.none rfl rfl elem33 sz3 ?_ | refine WXL.ixS Met.none rfl rfl elem33 sz3 ?_
        first | refine WXL.ld Met.none rfl agg3 ?_ (hv := (cell_map I _ f hFf)) | refine WXL.ldS Met.none rfl agg3 ?_ (hv := (cell_map I _ f hFf))
        refine WXL.assign Met.none rfl ?_
        refine WXL.nil ?_
        refine Fin.then_normal ?_
        refine WX.block ?_
        refine WX.loop (fun rr : Nat => [(0, Ptr r 0), (6, .slice a6 (filesR M).length c6), (12, I (at0 - 8 * (((looseSum (cutsR M keep j) + rr : Nat)) : Int))), (13, I (j : Int)), (14, I (f : Int)), (15, I ((dn + rr : Nat) : Int))]) (fun rr => rdO r rb rf M ws (rowsO (owQ at0 ow (looseSum (cutsR M keep j) + rr)) ++ B)) (fun rr => rr ≤ looseN o.f) (fun rr => looseN o.f - rr) 0 (Nat.zero_le _) (fun s hs => hs.tl [] 0) (fun rr hrr => ?_)
        refine WX.seq ?_
        refine WX.seq ?_
        refine WX.region rfl ?_
        refine WXL.move Met.none rfl ?_
        refine WXL.move Met.none rfl ?_
        refine WXL.nilCheck Met.none rfl ?_
        first | refine WXL.fieldAddr Met.none rfl Try.underlying58 rfl sz22 rfl ?_ | refine WXL.faS Met.none rfl Try.underlying58 rfl sz22 ?_
        first | refine WXL.ld Met.none rfl agg22 ?_ | refine WXL.ldS Met.none rfl agg22 ?_
        refine WXL.move Met.none rfl ?_
        first | refine WXL.ix Met.none rfl rfl elem22 sz27 ?_ | refine WXL.ixS Met.none rfl rfl elem22 sz27 ?_
        first | refine WXL.ld Met.none rfl agg27 ?_ (hv := hwf) | refine WXL.ldS Met.none rfl agg27 ?_ (hv := hwf)
        refine WXL.len Met.none rfl Try.underlying27 ?_
        refine WXL.bin Met.none rfl rfl rfl ?_
        refine WXL.nil ?_
        refine Fin.then_normal ?_
        refine WX.cond rfl (fun hc4 => ?_) (fun hc4 => ?_)
        · try simp only [cnd] at hc4
          refine WX.skip ?_
          refine Fin.then_normal ?_
          refine WX.seq ?_
          refine WX.block ?_
          refine WX.seq ?_
          refine WX.seq ?_
          refine WX.region rfl ?_
          refine WXL.move Met.none rfl ?_
          refine WXL.bin Met.none rfl rfl rfl ?_
          refine WXL.move Met.none rfl ?_
          refine WXL.split (d := 124) rfl (fun hg124 => ?_) (fun hg124 => ?_)
          · try simp only [cnd] at hg124
            refine WXL.move (Met.some rfl rfl rfl) rfl ?_
            refine WXL.bin (Met.some rfl rfl rfl) rfl rfl rfl ?_
            refine WXL.pick_t Met.none rfl rfl ?_
            refine WXL.nil ?_
            refine Fin.then_normal ?_
            refine WX.cond rfl (fun hc5 => ?_) (fun hc5 => ?_)
            · try simp only [cnd] at hc5
              have hrl : rr < looseN o.f := by omega
              have ha0 : 0 ≤ at0 := by omega
              have hp : at0.toNat / 8 = looseSum (cutsR M keep j) + rr := by omega
              obtain ⟨q1, q2⟩ := owQ_here (ow := ow) ha0 hp
              obtain ⟨b, hoa, hoGe⟩ : ∃ b, o.a = some ⟨b, 0, none⟩ ∧ o.G = [(b, ⟨1, false, o.f.bs.map B8⟩)] := by
                rcases hoG with ⟨_, h0, _⟩ | ⟨b, h1, h2, _⟩
                · omega
                · exact ⟨b, h1, h2⟩
              have hrs : rowsO (owQ at0 ow (looseSum (cutsR M keep j) + rr)) = rowsO (ow.take j) ++ ([(b, ⟨1, false, o.f.bs.map B8⟩)] ++ rowsO (ow.drop (j + 1))) := by
                rw [q1]
                conv => lhs; rw [hsplit]
                rw [rowsO_app, rowsO_cons, hoGe]
              have hzl : dn + rr < o.f.bs.length := by omega
              have hwf2 : ws[f]? = some (.slice (some ⟨b, 0, none⟩) o.f.bs.length o.c) := by rw [← hoa]; exact hwf
              have hk7 : (7 : Int) - (at0 - 8 * (((looseSum (cutsR M keep j) + rr : Nat)) : Int)) = ((7 - at0.toNat % 8 : Nat) : Int) := by omega
              have hrs2 : rowsO (owQ at0 ow (looseSum (cutsR M keep j) + (rr + 1))) = rowsO (ow.take j) ++ ([(b, ⟨1, false, (o.f.bs.set (dn + rr) (flipB (nth o.f.bs (dn + rr)) (7 - at0.toNat % 8))).map B8⟩)] ++ rowsO (ow.drop (j + 1))) := by
                rw [← Nat.add_assoc, q2]
                conv => lhs; rw [hsplit, ← hst]
                rw [flipOw_at _ rr hrl, rowsO_app, rowsO_cons]
                congr 1
                unfold flipO
                simp only [hoa, hod, Int.toNat_natCast]
              rw [hrs]
              refine WX.re (O' := (b, ⟨1, false, o.f.bs.map B8⟩) :: rdO r rb rf M ws ((rowsO (ow.take j) ++ rowsO (ow.drop (j + 1))) ++ B)) ?_
              refine WX.draw rfl ?_
              refine WXL.move Met.none rfl ?_
              refine WXL.nilCheck Met.none rfl ?_
              first | refine WXL.fieldAddr Met.none rfl Try.underlying58 rfl sz22 rfl ?_ | refine WXL.faS Met.none rfl Try.underlying58 rfl sz22 ?_
              first | refine WXL.ld Met.none rfl agg22 ?_ | refine WXL.ldS Met.none rfl agg22 ?_
              refine WXL.move Met.none rfl ?_
              first | refine WXL.ix Met.none rfl rfl elem22 sz27 ?_ | refine WXL.ixS Met.none rfl rfl elem22 sz27 ?_
              first | refine WXL.ld Met.none rfl agg27 ?_ (hv := hwf2) | refine WXL.ldS Met.none rfl agg27 ?_ (hv := hwf2)
              refine WXL.move Met.none rfl ?_
              refine WXL.move Met.none rfl ?_
              refine WXL.nilCheck Met.none rfl ?_
              first | refine WXL.fieldAddr Met.none rfl Try.underlying58 rfl sz22 rfl ?_ | refine WXL.faS Met.none rfl Try.underlying58 rfl sz22 ?_
              first | refine WXL.ld Met.none rfl agg22 ?_ | refine WXL.ldS Met.none rfl agg22 ?_
              refine WXL.move Met.none rfl ?_
              first | refine WXL.ix Met.none rfl rfl elem22 sz27 ?_ | refine WXL.ixS Met.none rfl rfl elem22 sz27 ?_
              first | refine WXL.ld Met.none rfl agg27 ?_ (hv := hwf2) | refine WXL.ldS Met.none rfl agg27 ?_ (hv := hwf2)
              refine WXL.move Met.none rfl ?_
              first | refine WXL.ix Met.none rfl rfl elem27 sz5 ?_ | refine WXL.ixS Met.none rfl rfl elem27 sz5 ?_
              first | refine WXL.ld Met.none rfl agg5 ?_ (hv := (cell_map _ _ _ hzl)) | refine WXL.ldS Met.none rfl agg5 ?_ (hv := (cell_map _ _ _ hzl))
              refine WXL.move Met.none rfl ?_
              refine WXL.bin Met.none rfl rfl bvS ?_
              rw [hk7]
              refine WXL.conv Met.none rfl Try.underlying3 Try.underlying77 (wrap_u64 (by omega) (by omega)) ?_
              refine WXL.shl Met.none rfl rfl (by omega) ?_
              refine WXL.bin Met.none rfl rfl (show _ = some (B8 (flipB (nth o.f.bs (dn + rr)) (7 - at0.toNat % 8))) from rfl) ?_
              first | refine WXL.ix Met.none rfl rfl elem27 sz5 ?_ | refine WXL.ixS Met.none rfl rfl elem27 sz5 ?_
              refine WXL.st (vs := [_]) (j := 0) Met.none rfl rfl rfl sz5 ?_ (hj := rfl)
              refine WXL.nil ?_
              refine Fin.then_normal ?_
              first
              | refine WX.re (O' := rdO r rb rf M ws (rowsO (owQ at0 ow (looseSum (cutsR M keep j) + (rr + 1))) ++ B)) ?_ (by rw [hrs2]; exact sub_)
              | refine WX.re (O' := rdO r rb rf M ws (rowsO (owQ at0 ow (looseSum (cutsR M keep j) + (rr + 1))) ++ B)) ?_ (by rw [← Nat.add_assoc, owQ_same (by omega)]; exact fun _ hs => hs)
              refine WX.region rfl ?_
              refine WXL.move Met.none rfl ?_
              refine WXL.bin Met.none rfl rfl bvS ?_
              refine WXL.assign Met.none rfl ?_
              refine WXL.nil ?_
              refine Fin.block_normal ?_
              refine Fin.then_normal ?_
              refine WX.region rfl ?_
              refine WXL.move Met.none rfl ?_
              refine WXL.bin Met.none rfl rfl bvA ?_
              refine WXL.assign Met.none rfl ?_
              refine WXL.nil ?_
              exact Fin.loop_next (rr + 1) (by omega) (by omega) (fun s hs => hs.tl [] 0)
            · try simp only [cnd] at hc5
              refine WX.skip ?_
              refine Fin.then_normal ?_
              first
              | refine WX.re (O' := rdO r rb rf M ws (rowsO (owQ at0 ow (looseSum (cutsR M keep j) + (rr + 1))) ++ B)) ?_ (by rw [hrs2]; exact sub_)
              | refine WX.re (O' := rdO r rb rf M ws (rowsO (owQ at0 ow (looseSum (cutsR M keep j) + (rr + 1))) ++ B)) ?_ (by rw [← Nat.add_assoc, owQ_same (by omega)]; exact fun _ hs => hs)
              refine WX.region rfl ?_
              refine WXL.move Met.none rfl ?_
              refine WXL.bin Met.none rfl rfl bvS ?_
              refine WXL.assign Met.none rfl ?_
              refine WXL.nil ?_
              refine Fin.block_normal ?_
              refine Fin.then_normal ?_
              refine WX.region rfl ?_
              refine WXL.move Met.none rfl ?_
              refine WXL.bin Met.none rfl rfl bvA ?_
              refine WXL.assign Met.none rfl ?_
              refine WXL.nil ?_
              exact Fin.loop_next (rr + 1) (by omega) (by omega) (fun s hs => hs.tl [] 0)
          · try simp only [cnd] at hg124
            refine WXL.miss (j := 2) (d := 124) rfl rfl rfl ?_
            refine WXL.miss (j := 2) (d := 124) rfl rfl rfl ?_
            refine WXL.pick_f Met.none rfl rfl ?_
            refine WXL.nil ?_
            refine Fin.then_normal ?_
            refine WX.cond rfl (fun hc5 => nomatch hc5) (fun hc5 => ?_)
            refine WX.skip ?_
            refine Fin.then_normal ?_
            first
            | refine WX.re (O' := rdO r rb rf M ws (rowsO (owQ at0 ow (looseSum (cutsR M keep j) + (rr + 1))) ++ B)) ?_ (by rw [hrs2]; exact sub_)
            | refine WX.re (O' := rdO r rb rf M ws (rowsO (owQ at0 ow (looseSum (cutsR M keep j) + (rr + 1))) ++ B)) ?_ (by rw [← Nat.add_assoc, owQ_same (by omega)]; exact fun _ hs => hs)
            refine WX.region rfl ?_
            refine WXL.move Met.none rfl ?_
            refine WXL.bin Met.none rfl rfl bvS ?_
            refine WXL.assign Met.none rfl ?_
            refine WXL.nil ?_
            refine Fin.block_normal ?_
            refine Fin.then_normal ?_
            refine WX.region rfl ?_
            refine WXL.move Met.none rfl ?_
            refine WXL.bin Met.none rfl rfl bvA ?_
            refine WXL.assign Met.none rfl ?_
            refine WXL.nil ?_
            exact Fin.loop_next (rr + 1) (by omega) (by omega) (fun s hs => hs.tl [] 0)
        · try simp only [cnd] at hc4
          refine WX.exit ?_
          refine Fin.then_exit ?_
          refine Fin.loop_exit ?_
          refine Fin.block_hit rfl ?_
          refine Fin.block_normal ?_
          refine Fin.then_normal ?_
          have hre : rr = looseN o.f := by omega
          subst hre
          rw [← hsj]
          refine WX.region rfl ?_
          refine WXL.move Met.none rfl ?_
          refine WXL.bin Met.none rfl rfl bvA ?_
          refine WXL.assign Met.none rfl ?_
          refine WXL.nil ?_
          exact Fin.loop_next (j + 1) (by omega) (by omega) (fun s hs => hs.tl [] 0)
      · try simp only [cnd] at hc3
        refine WX.exit ?_
        refine Fin.then_exit ?_
        refine Fin.loop_exit ?_
        refine Fin.block_hit rfl ?_
        refine Fin.then_normal ?_
        refine WX.seq ?_
        refine WX.seq ?_
        have hje : j = (filesR M).length := by omega
        rw [hje, ← hS]
        have hVF : CrV M vs (crashCR M keep flip) (owQ at0 ow S) ws := by
          rw [hcr]
          unfold owQ
          rcases hat2 with h1 | ⟨h1, h2⟩
          · rw [if_neg (by omega), if_neg (by omega)]; exact hV
          · rw [if_pos h1, if_pos (by omega)]; exact hV.flip _ _
        have hIF := crashR_I h hVF
        obtain ⟨M3, hM3⟩ : ∃ M3 : Rd, M3 = ⟨M.room, (crashR M keep flip).B, M.F, M.off, M.plan⟩ := ⟨_, rfl⟩
        have hF3 : M3.F.length = 64 := by rw [hM3]; exact h.lenF
        generalize owQ at0 ow S = owF at hVF hIF ⊢
        refine WX.region rfl ?_
        refine WXL.assign Met.none rfl ?_
        refine WXL.nil ?_
        refine Fin.then_normal ?_
        refine WX.block ?_
        refine WX.re (O' := rdO r rb rf ⟨M.room, M.B, firmI M3 0, M.off, M.plan⟩ ws (rowsO owF ++ B)) ?_ (by rw [show firmI M3 0 = M.F from by rw [hM3]; rfl]; exact fun _ hs => hs)
        refine WX.loop (fun i : Nat => [(0, Ptr r 0), (16, I (i : Int))]) (fun i => rdO r rb rf ⟨M.room, M.B, firmI M3 i, M.off, M.plan⟩ ws (rowsO owF ++ B)) (fun i => i ≤ 64) (fun i => 64 - i) 0 (by decide) (fun s hs => hs.tl [] 0) (fun i hi => ?_)
        refine WX.seq ?_
        refine WX.seq ?_
        refine WX.region rfl ?_
        refine WXL.move Met.none rfl ?_
        refine WXL.bin Met.none rfl rfl rfl ?_
        refine WXL.nil ?_
        refine Fin.then_normal ?_
        refine WX.cond rfl (fun hc6 => ?_) (fun hc6 => ?_)
        · try simp only [cnd] at hc6
          refine WX.skip ?_
          refine Fin.then_normal ?_
          refine WX.seq ?_
          refine WX.block ?_
          have hi64 : i < 64 := by omega
          obtain ⟨a, c, ev, _⟩ := hIF.file i hi64
          have hv : ws[i]? = some (.slice a (nth (crashR M keep flip).B i).length c) := by rw [← ev]; exact nth_eq (by rw [hVF.len]; exact hi64)
          have hfl3 := firmI_len hF3 (i := i) (by omega)
          have hl3 : lenR M3 i = ((nth (crashR M keep flip).B i).length : Nat) := by unfold lenR; rw [hM3]
          refine WX.draw rfl ?_
          refine WXL.move Met.none rfl ?_
          refine WXL.nilCheck Met.none rfl ?_
          first | refine WXL.fieldAddr Met.none rfl Try.underlying58 rfl sz33 rfl ?_ | refine WXL.faS Met.none rfl Try.underlying58 rfl sz33 ?_
          first | refine WXL.ld Met.none rfl agg33 ?_ | refine WXL.ldS Met.none rfl agg33 ?_
          refine WXL.move Met.none rfl ?_
          refine WXL.move Met.none rfl ?_
          refine WXL.nilCheck Met.none rfl ?_
          first | refine WXL.fieldAddr Met.none rfl Try.underlying58 rfl sz22 rfl ?_ | refine WXL.faS Met.none rfl Try.underlying58 rfl sz22 ?_
          first | refine WXL.ld Met.none rfl agg22 ?_ | refine WXL.ldS Met.none rfl agg22 ?_
          refine WXL.move Met.none rfl ?_
          first | refine WXL.ix Met.none rfl rfl elem22 sz27 ?_ | refine WXL.ixS Met.none rfl rfl elem22 sz27 ?_
          first | refine WXL.ld Met.none rfl agg27 ?_ (hv := hv) | refine WXL.ldS Met.none rfl agg27 ?_ (hv := hv)
          refine WXL.len Met.none rfl Try.underlying27 ?_
          first | refine WXL.ix Met.none rfl rfl elem33 sz3 ?_ | refine WXL.ixS Met.none rfl rfl elem33 sz3 ?_
          refine WXL.st (vs := [_]) (j := 2) Met.none rfl rfl rfl sz3 ?_ (hj := rfl) (hl := (by rw [List.length_map, hfl3]; show i + 1 ≤ 64; omega)) (hc := (show splice (List.map I (firmI M3 i)) i [I (((nth (crashR M keep flip).B i).length : Nat) : Int)] = List.map I ((firmI M3 i).set i (lenR M3 i)) from by rw [hl3]; exact splice_map I _ i _ (by rw [hfl3]; exact hi64)))
          refine WXL.nil ?_
          refine Fin.block_normal ?_
          refine Fin.then_normal ?_
          refine WX.region rfl ?_
          refine WXL.move Met.none rfl ?_
          refine WXL.bin Met.none rfl rfl bvA ?_
          refine WXL.assign Met.none rfl ?_
          refine WXL.nil ?_
          exact Fin.loop_next (i + 1) (by omega) (by omega) (fun s hs => by rw [← firmI_set hF3 hi64]; exact hs.tl [] 0)
        · try simp only [cnd] at hc6
          refine WX.exit ?_
          refine Fin.then_exit ?_
          refine Fin.loop_exit ?_
          refine Fin.block_hit rfl ?_
          refine Fin.then_normal ?_
          refine WX.seq ?_
          have hi6 : i = 64 := by omega
          rw [hi6, firmI_all hF3]
          refine WX.region rfl ?_
          refine WXL.move Met.none rfl ?_
          refine WXL.nilCheck Met.none rfl ?_
          first | refine WXL.fieldAddr Met.none rfl Try.underlying58 rfl sz4 rfl ?_ | refine WXL.faS Met.none rfl Try.underlying58 rfl sz4 ?_
          refine WXL.st (vs := [_]) (j := 0) Met.none rfl rfl rfl sz4 ?_ (hj := rfl)
          refine WXL.nil ?_
          refine Fin.then_normal ?_
          refine WX.region rfl ?_
          refine WXL.move Met.none rfl ?_
          refine WXL.nilCheck Met.none rfl ?_
          first | refine WXL.fieldAddr Met.none rfl Try.underlying58 rfl sz3 rfl ?_ | refine WXL.faS Met.none rfl Try.underlying58 rfl sz3 ?_
          refine WXL.st (vs := [_]) (j := 0) Met.none rfl rfl rfl sz3 ?_ (hj := rfl)
          refine WXL.nil ?_
          exact Fin.result (O' := rdO r rb rf ⟨M.room, (crashR M keep flip).B, (crashR M keep flip).F, false, -1⟩ ws (rowsO owF ++ R)) (.inl rfl) rfl rfl (by
            have e1 : (List.range 64).map (lenR M3) = (crashR M keep flip).F := by
              show (List.range 64).map (lenR M3) = (List.range 64).map fun n => ((((mget ((n : Nat) : Int) (crashCR M keep flip)).getD ⟨[], 0⟩).bs.length : Nat) : Int)
              refine List.map_congr_left fun n hn => ?_
              have hn := List.mem_range.1 hn
              unfold lenR
              rw [hM3]
              show (((nth ((List.range 64).map fun n => ((mget ((n : Nat) : Int) (crashCR M keep flip)).getD ⟨[], 0⟩).bs) n).length : Nat) : Int) = _
              rw [nth_map_range _ hn]
            rw [e1, hB]
            intro g hg
            have hg2 : Sat g (rdO r rb rf ⟨M.room, (crashR M keep flip).B, (crashR M keep flip).F, false, -1⟩ ws (rowsO owF ++ (Gf ++ R))) := hg
            exact hg2.sub (by intro Q; simp only [List.countP_append, List.countP_cons]; omega)) ⟨ws, rowsO owF, rfl, hIF⟩

end Go.Proofs.Ytahaplbdhgfobaa.Eng

set_option linter.unusedVariables false
set_option linter.unusedSimpArgs false
set_option maxRecDepth 8000
namespace Go.Proofs.Ytahaplbdhgfobaa.Eng

theorem sameI_ok (O : Objs) (l m : List Int) (a b : Option Addr) (c e : Nat) (hlen : Short l) (hl : Src O 1 (.slice a l.length c) l.length (l.map I)) (hm : Src O 1 (.slice b m.length e) m.length (m.map I)) :
    Spec Try.prog true 48 #[.slice a l.length c, .slice b m.length e] O fun v O' => v = .bool (decide (l = m)) ∧ O' = O := by
  unfold Short at hlen
  refine Spec.enter (args := [_, _]) (m := 26) Try.func48 rfl rfl (by decide +kernel) fun h0 => ?_
  refine WX.seq ?_
  refine WX.region rfl ?_
  refine WXL.assign Met.none rfl ?_
  refine WXL.nil ?_
  refine Fin.then_normal ?_
  refine WX.seq ?_
  refine WX.seq ?_
  refine WX.region rfl ?_
  refine WXL.move Met.none rfl ?_
  refine WXL.len Met.none rfl Try.underlying33 ?_
  refine WXL.move Met.none rfl ?_
  refine WXL.len Met.none rfl Try.underlying33 ?_
  refine WXL.bin Met.none rfl rfl rfl ?_
  refine WXL.nil ?_
  refine Fin.then_normal ?_
  refine WX.cond rfl (fun hc0 => ?_) (fun hc0 => ?_)
  · try simp only [cnd] at hc0
    refine WX.seq ?_
    refine WX.region rfl ?_
    refine WXL.assign Met.none rfl ?_
    refine WXL.nil ?_
    refine Fin.then_normal ?_
    refine WX.ret ?_
    refine Fin.then_ret ?_
    refine Fin.result (.inr rfl) rfl rfl (fun _ h => h) ⟨?_, rfl⟩
    first
    | exact bool_false (fun h => hc0 (by rw [h]))
    | exact bool_false (fun h => hc2 (by rw [h]))
    | exact bool_true (by
        have e1 : k = l.length := by omega
        have e2 := hk.2
        rw [e1, List.take_length, List.take_of_length_le (by omega)] at e2
        exact e2)
  · try simp only [cnd] at hc0
    refine WX.skip ?_
    refine Fin.then_normal ?_
    refine WX.seq ?_
    refine WX.seq ?_
    refine WX.region rfl ?_
    refine WXL.assign Met.none rfl ?_
    refine WXL.nil ?_
    refine Fin.then_normal ?_
    refine WX.block ?_
    refine WX.loop (fun k : Nat => [(0, .slice a l.length c), (1, .slice b m.length e), (5, I k)]) (fun _ => O) (fun k => k ≤ l.length ∧ l.take k = m.take k) (fun k => l.length - k) 0 ⟨Nat.zero_le _, rfl⟩ (fun s hs => hs.tl [] 0) (fun k hk => ?_)
    refine WX.seq ?_
    refine WX.seq ?_
    refine WX.region rfl ?_
    refine WXL.move Met.none rfl ?_
    refine WXL.move Met.none rfl ?_
    refine WXL.len Met.none rfl Try.underlying33 ?_
    refine WXL.bin Met.none rfl rfl rfl ?_
    refine WXL.nil ?_
    refine Fin.then_normal ?_
    refine WX.cond rfl (fun hc1 => ?_) (fun hc1 => ?_)
    · try simp only [cnd] at hc1
      refine WX.skip ?_
      refine Fin.then_normal ?_
      refine WX.seq ?_
      refine WX.block ?_
      refine WX.seq ?_
      refine WX.draw rfl ?_
      refine WXL.move Met.none rfl ?_
      refine WXL.move Met.none rfl ?_
      first | refine WXL.ix Met.none rfl rfl elem33 sz3 ?_ | refine WXL.ixS Met.none rfl rfl elem33 sz3 ?_
      first | refine WXL.ld Met.none rfl agg3 ?_ | refine WXL.ldS Met.none rfl agg3 ?_
      refine WXL.move Met.none rfl ?_
      refine WXL.move Met.none rfl ?_
      first | refine WXL.ix Met.none rfl rfl elem33 sz3 ?_ | refine WXL.ixS Met.none rfl rfl elem33 sz3 ?_
      first | refine WXL.ld Met.none rfl agg3 ?_ | refine WXL.ldS Met.none rfl agg3 ?_
      refine WXL.bin Met.none rfl rfl rfl ?_
      refine WXL.nil ?_
      refine Fin.then_normal ?_
      refine WX.cond rfl (fun hc2 => ?_) (fun hc2 => ?_)
      · try simp only [cnd] at hc2
        refine WX.seq ?_
        refine WX.region rfl ?_
        refine WXL.assign Met.none rfl ?_
        refine WXL.nil ?_
        refine Fin.then_normal ?_
        refine WX.ret ?_
        refine Fin.block_ret ?_
        refine Fin.then_ret ?_
        refine Fin.loop_ret ?_
        refine Fin.block_ret ?_
        refine Fin.then_ret ?_
        refine Fin.result (.inr rfl) rfl rfl (fun _ h => h) ⟨?_, rfl⟩
        first
        | exact bool_false (fun h => hc0 (by rw [h]))
        | exact bool_false (fun h => hc2 (by rw [h]))
        | exact bool_true (by
            have e1 : k = l.length := by omega
            have e2 := hk.2
            rw [e1, List.take_length, List.take_of_length_le (by omega)] at e2
            exact e2)
      · try simp only [cnd] at hc2
        refine WX.skip ?_
        refine Fin.block_normal ?_
        refine Fin.then_normal ?_
        refine WX.region rfl ?_
        refine WXL.move Met.none rfl ?_
        refine WXL.bin Met.none rfl rfl bvA ?_
        refine WXL.assign Met.none rfl ?_
        refine WXL.nil ?_
        refine Fin.loop_next (k + 1) ⟨by omega, ?_⟩ (by omega) (fun s hs => hs.tl [] 0)
        rw [take_succ_nth (by omega), take_succ_nth (by omega), hk.2, hc2]
    · try simp only [cnd] at hc1
      refine WX.exit ?_
      refine Fin.then_exit ?_
      refine Fin.loop_exit ?_
      refine Fin.block_hit rfl ?_
      refine Fin.then_normal ?_
      refine WX.seq ?_
      refine WX.region rfl ?_
      refine WXL.assign Met.none rfl ?_
      refine WXL.nil ?_
      refine Fin.then_normal ?_
      refine WX.ret ?_
      refine Fin.result (.inr rfl) rfl rfl (fun _ h => h) ⟨?_, rfl⟩
      first
      | exact bool_false (fun h => hc0 (by rw [h]))
      | exact bool_false (fun h => hc2 (by rw [h]))
      | exact bool_true (by
          have e1 : k = l.length := by omega
          have e2 := hk.2
          rw [e1, List.take_length, List.take_of_length_le (by omega)] at e2
          exact e2)

theorem ints_ok (O : Objs) (l : List Int) (a : Option Addr) (c : Nat) (most : Int) (hm : 0 ≤ most) (hlen : Short l) (hml : most ≤ 1000000000) (hr : Rowy O 1 a l.length (l.map I)) (hc : a = none → c = 0) :
    Spec Try.prog false 31 #[.slice a l.length c, I most] O fun v O' => ∃ a' c' G, v = .slice a' (l.take most.toNat).length c' ∧ Grow 1 a' (l.take most.toNat).length c' ((l.take most.toNat).map I) G ∧ O' = G ++ O := by
  unfold Short at hlen
  obtain ⟨m, hm2⟩ : ∃ m, m = (l.take most.toNat).length := ⟨_, rfl⟩
  have hml2 : m = min l.length most.toNat := by rw [hm2, List.length_take]; omega
  have htm : l.take m = l.take most.toNat := by
    rw [hml2]
    rcases Nat.le_total l.length most.toNat with q | q
    · rw [Nat.min_eq_left q, List.take_of_length_le (Nat.le_refl _), List.take_of_length_le q]
    · rw [Nat.min_eq_right q]
  have hr2 := hr.pre (m := m) (by omega)
  rw [Nat.mul_one, ← List.map_take, htm] at hr2
  refine Spec.enter (args := [_, _]) (m := 14) Try.func31 rfl rfl (by decide +kernel) fun h0 => ?_
  refine WX.seq ?_
  refine WX.region rfl ?_
  refine WXL.assign Met.none rfl ?_
  refine WXL.nil ?_
  refine Fin.then_normal ?_
  refine WX.seq ?_
  refine WX.region rfl ?_
  refine WXL.assign Met.none rfl ?_
  refine WXL.nil ?_
  refine Fin.then_normal ?_
  refine WX.seq ?_
  refine WX.region rfl ?_
  refine WXL.move Met.none rfl ?_
  refine WXL.move Met.none rfl ?_
  refine WXL.move Met.none rfl ?_
  refine WXL.len Met.none rfl Try.underlying33 ?_
  refine WXL.move Met.none rfl ?_
  refine WXL.min Met.none rfl rfl ?_
  refine WXL.pre (m := m) Met.none rfl rfl elem33 sz3 hr hc ?_
  refine WXL.apG ([]) Met.none rfl rfl isrow33 elem33 sz3 by3 zero3 (hr2.src (fun q => hr2.nil0 q)) (fun a13 c13 G13 hG13 => ?_) (hm := (by rw [List.length_map, ← hm2]; omega)) (hg := .nil)
  refine WXL.assign Met.none rfl ?_
  refine WXL.nil ?_
  refine Fin.then_normal ?_
  refine WX.ret ?_
  rw [← hm2]
  rw [Nat.zero_add] at hG13
  exact Fin.result (O' := G13 ++ O) (.inr rfl) rfl rfl (fun _ h => h) ⟨a13, c13, G13, by rw [Nat.zero_add]; rfl, hG13, rfl⟩

/-- An operation with the slices that it holds. -/
structure OpV where
  kind : Int
  file : Int
  n : Int
  b : List Int
  keep : List Int
  a : Option Addr
  c : Nat
  ak : Option Addr
  ck : Nat
deriving Inhabited
def encV (o : OpV) : List Value := [I o.kind, I o.file, I o.n, .slice o.a o.b.length o.c, .slice o.ak o.keep.length o.ck]
theorem encV_len (o : OpV) : (encV o).length = 5 := rfl

structure OpK (R : Objs) (o : OpV) : Prop where
  row : Rowy R 1 o.a o.b.length (o.b.map B8)
  nil : o.a = none → o.c = 0
  bytes : Bytes o.b
  short : o.b.length ≤ 5
  krow : Rowy R 1 o.ak o.keep.length (o.keep.map I)
  knil : o.ak = none → o.ck = 0
  kshort : o.keep.length ≤ 3
  k64 : ∀ n ∈ o.keep, In64 n
  n64 : In64 o.n
  nlt : o.n < 9223372036854775807

theorem OpK.app {R N : Objs} {o : OpV} (h : OpK R o) : OpK (N ++ R) o := ⟨h.row.app, h.nil, h.bytes, h.short, h.krow.app, h.knil, h.kshort, h.k64, h.n64, h.nlt⟩
theorem OpK.cons {R : Objs} {q : Nat × Ent} {o : OpV} (h : OpK R o) : OpK (q :: R) o := ⟨h.row.cons, h.nil, h.bytes, h.short, h.krow.cons, h.knil, h.kshort, h.k64, h.n64, h.nlt⟩
theorem OpK.inc {R R' : Objs} {o : OpV} (h : OpK R o) (hi : ∀ g, Sat g R' → Sat g R) : OpK R' o := ⟨h.row.inc hi, h.nil, h.bytes, h.short, h.krow.inc hi, h.knil, h.kshort, h.k64, h.n64, h.nlt⟩

theorem nil_row {R : Objs} {f : Int → Value} : Rowy R 1 none ([] : List Int).length (([] : List Int).map f) := .inl ⟨rfl, rfl, rfl⟩

structure OpsS where
  i : Nat
  ops : List OpV
  a : Option Addr
  c : Nat
  G : Objs
  N : Objs

end Go.Proofs.Ytahaplbdhgfobaa.Eng

set_option linter.unusedVariables false
set_option linter.unusedSimpArgs false
set_option maxRecDepth 8000
namespace Go.Proofs.Ytahaplbdhgfobaa.Eng

theorem tdiv64 {x : Int} (h : In64 x) : In64 (x.tdiv 16) := by
  unfold In64 at h ⊢
  rcases Int.le_total 0 x with q | q
  · rw [Int.tdiv_eq_ediv_of_nonneg q]; omega
  · have : x.tdiv 16 = -((-x).tdiv 16) := by rw [← Int.neg_tdiv, Int.neg_neg]
    rw [this, Int.tdiv_eq_ediv_of_nonneg (by omega)]
    omega

theorem Rowy.one {O : Objs} {b : Nat} {y : Ent} {n : Nat} (hk : Knows O b y) (h1 : y.sz = 1) (hl : y.c.length = n) : Rowy O 1 (some ⟨b, 0, none⟩) n y.c :=
  .inr ⟨b, 0, y, rfl, hk, h1, by omega, by rw [Nat.mul_one, List.drop_zero, ← hl, List.take_length]⟩

theorem ops_snoc {ops : List OpV} {N : Objs} {o : OpV} (X : Objs) (hok : ∀ o ∈ ops, OpK N o) (h : OpK (X ++ N) o) : ∀ o' ∈ ops ++ [o], OpK (X ++ N) o' := fun o' ho => by
  rcases List.mem_append.1 ho with q | q
  · exact (hok o' q).app
  · rw [List.mem_singleton.1 q]; exact h

theorem grow_op {ops : List OpV} {a : Option Addr} {c : Nat} {G : Objs} (o : OpV) (h : Grow 5 a (ops.length + 1) c (flat encV ops ++ encV o) G) : Grow 5 a (ops ++ [o]).length c (flat encV (ops ++ [o])) G := by
  rw [List.length_append, flat_append]
  have hE : flat encV [o] = encV o := by simp [flat]
  rw [hE]
  exact h

theorem ops_next {i : Nat} {ops : List OpV} {a : Option Addr} {c : Nat} {G N : Objs} {ll : Nat} (X : Objs) (o : OpV) (h1 : i < 16) (h2 : i < ll) (hol : ops.length = i) (h : Grow 5 a (ops.length + 1) c (flat encV ops ++ encV o) G) (hok : ∀ o ∈ ops, OpK N o) (h3 : OpK (X ++ N) o) :
    i + 1 ≤ 16 ∧ i + 1 ≤ ll ∧ (ops ++ [o]).length = i + 1 ∧ Grow 5 a (ops ++ [o]).length c (flat encV (ops ++ [o])) G ∧ ∀ o' ∈ ops ++ [o], OpK (X ++ N) o' :=
  ⟨h1, h2, by rw [List.length_append, hol]; rfl, grow_op o h, ops_snoc X hok h3⟩

set_option maxHeartbeats 4000000 in
theorem ops_ok (O : Objs) (l : List Int) (a : Option Addr) (c : Nat) (hlen : Short l) (h64 : ∀ x ∈ l, In64 x) (hl : Src O 1 (.slice a l.length c) l.length (l.map I)) :
    Spec Try.prog false 23 #[.slice a l.length c] O fun v O' => ∃ a' c' ops G N, v = .slice a' ops.length c' ∧ Grow 5 a' ops.length c' (flat encV ops) G ∧ O' = G ++ (N ++ O) ∧ ops.length ≤ 16 ∧ ∀ o ∈ ops, OpK N o := by
  unfold Short at hlen
  refine Spec.enter (args := [_]) (m := 112) Try.func23 rfl rfl (by decide +kernel) fun h0 => ?_
  refine WX.seq ?_
  refine WX.region rfl ?_
  refine WXL.assign Met.none rfl ?_
  refine WXL.nil ?_
  refine Fin.then_normal ?_
  refine WX.seq ?_
  refine WX.region rfl ?_
  refine WXL.assign Met.none rfl ?_
  refine WXL.nil ?_
  refine Fin.then_normal ?_
  refine WX.seq ?_
  refine WX.seq ?_
  refine WX.region rfl ?_
  refine WXL.assign Met.none rfl ?_
  refine WXL.nil ?_
  refine Fin.then_normal ?_
  refine WX.block ?_
  refine WX.re (O' := [] ++ ([] ++ O)) ?_
  refine WX.loop (fun q : OpsS => [(0, .slice a l.length c), (3, .slice q.a q.ops.length q.c), (4, I (q.i : Int))]) (fun q => q.G ++ (q.N ++ O)) (fun q => q.i ≤ 16 ∧ q.i ≤ l.length ∧ q.ops.length = q.i ∧ Grow 5 q.a q.ops.length q.c (flat encV q.ops) q.G ∧ ∀ o ∈ q.ops, OpK q.N o) (fun q => 16 - q.i) ⟨0, [], none, 0, [], []⟩ ⟨Nat.zero_le _, Nat.zero_le _, rfl, .nil, fun o ho => by simp at ho⟩ (fun s hs => hs.tl [] 0) (fun q hq => ?_)
  obtain ⟨i, ops, a3, c3, G, N⟩ := q
  obtain ⟨hi16, hil, hol, hG, hok⟩ := hq
  simp only at hi16 hil hol hG hok
  dsimp only
  have hlS : Src (G ++ (N ++ O)) 1 (.slice a l.length c) l.length (l.map I) := Src.app (Src.app hl)
  refine WX.seq ?_
  refine WX.seq ?_
  refine WX.region rfl ?_
  refine WXL.move Met.none rfl ?_
  refine WXL.move Met.none rfl ?_
  refine WXL.len Met.none rfl Try.underlying33 ?_
  refine WXL.bin Met.none rfl rfl rfl ?_
  refine WXL.move Met.none rfl ?_
  refine WXL.split (d := 12) rfl (fun hg12 => ?_) (fun hg12 => ?_)
  · try simp only [cnd] at hg12
    refine WXL.move (Met.some rfl rfl rfl) rfl ?_
    refine WXL.bin (Met.some rfl rfl rfl) rfl rfl rfl ?_
    refine WXL.pick_t Met.none rfl rfl ?_
    refine WXL.nil ?_
    refine Fin.then_normal ?_
    refine WX.cond rfl (fun hc0 => ?_) (fun hc0 => ?_)
    · try simp only [cnd] at hc0
      refine WX.skip ?_
      refine Fin.then_normal ?_
      refine WX.seq ?_
      refine WX.block ?_
      refine WX.seq ?_
      have hil2 : i < l.length := by omega
      have hx64 := h64 _ (nth_mem hil2)
      have hq64 := tdiv64 hx64
      obtain ⟨n, hn⟩ : ∃ n, n = around ((nth l i).tdiv 16) 4096 := ⟨_, rfl⟩
      have hnr : 0 ≤ n ∧ n < 4096 := hn ▸ around_range (by decide)
      obtain ⟨sw, hsw⟩ : ∃ sw, sw = around (nth l i) 16 := ⟨_, rfl⟩
      have tm : ∀ x k : Int, 0 ≤ x → x.tmod k = x % k := fun x k h => Int.tmod_eq_emod_of_nonneg h
      have td : ∀ x k : Int, 0 ≤ x → x.tdiv k = x / k := fun x k h => Int.tdiv_eq_ediv_of_nonneg h
      have f1 := tm n 3 hnr.1
      have f2 := td n 3 hnr.1
      have f3 := tm (n.tdiv 3) 9 (by omega)
      have f4 := tm (n.tdiv 3) 7 (by omega)
      have f5 := td n 4 hnr.1
      have f6 := tm (n.tdiv 4) 40 (by omega)
      have f7 := tm n 5 hnr.1
      have f8 := td n 5 hnr.1
      have f9 := tm (n.tdiv 5) 5 (by omega)
      have f10 := td n 25 hnr.1
      have f11 := tm (n.tdiv 25) 5 (by omega)
      have f12 := td n 125 hnr.1
      have f13 := tm (n.tdiv 125) 4 (by omega)
      have f14 := tm n 70 hnr.1
      obtain ⟨m, hm⟩ : ∃ m, m = ((n.tdiv 125).tmod 4).toNat := ⟨_, rfl⟩
      have hm3 : m ≤ 3 := by omega
      have hkl : ([n.tmod 5 - 1, (n.tdiv 5).tmod 5, (n.tdiv 25).tmod 5].take m).length = m := by rw [List.length_take]; show min m 3 = m; omega
      have hkl3 : ([n.tmod 5 - 1, (n.tdiv 5).tmod 5, (n.tdiv 25).tmod 5].take m).length ≤ 3 := by omega
      have hk64 : ∀ x ∈ [n.tmod 5 - 1, (n.tdiv 5).tmod 5, (n.tdiv 25).tmod 5].take m, In64 x := fun x hx => by
        have := List.mem_of_mem_take hx
        simp only [List.mem_cons, List.not_mem_nil, or_false] at this
        unfold In64
        rcases this with q | q | q <;> rw [q] <;> omega
      have hkrow : ∀ (R : Objs) {bb : Nat}, Knows R bb ⟨1, false, [I (n.tmod 5 - 1), Value.int .i64 ((n.tdiv 5).tmod 5), Value.int .i64 ((n.tdiv 25).tmod 5)]⟩ → Rowy R 1 (some ⟨bb, 0, none⟩) ([n.tmod 5 - 1, (n.tdiv 5).tmod 5, (n.tdiv 25).tmod 5].take m).length (([n.tmod 5 - 1, (n.tdiv 5).tmod 5, (n.tdiv 25).tmod 5].take m).map I) := fun R bb hk => by
        have h1 := (Rowy.one hk rfl rfl : Rowy R 1 (some ⟨bb, 0, none⟩) 3 _).pre (m := m) hm3
        rw [hkl, List.map_take]
        rw [Nat.mul_one] at h1
        exact h1
      have h1row : ∀ (R : Objs) {bb : Nat}, Knows R bb ⟨1, false, [Value.int .u8 1]⟩ → Rowy R 1 (some ⟨bb, 0, none⟩) ([1] : List Int).length (([1] : List Int).map B8) := fun R bb hk => (Rowy.one hk rfl rfl : Rowy R 1 (some ⟨bb, 0, none⟩) 1 _)
      have f15 := tm (n.tdiv 3) 6 (by omega)
      refine WX.region rfl ?_
      refine WXL.move Met.none rfl ?_
      refine WXL.move Met.none rfl ?_
      first | refine WXL.ix Met.none rfl rfl elem33 sz3 ?_ | refine WXL.ixS Met.none rfl rfl elem33 sz3 ?_
      first | refine WXL.ld Met.none rfl agg3 ?_ | refine WXL.ldS Met.none rfl agg3 ?_
      refine WXL.qu Met.none rfl rfl ?_ (hr := (wrap_i64 hq64.1 hq64.2))
      refine WXL.cl (O1 := _) Met.none rfl (fnOk_of Try.func12 (by decide +kernel)) rfl (fun _ h => h) (around_ok _ ((nth l i).tdiv 16) 4096 hq64 (by decide)) (fun v O' hp => ?_)
      obtain ⟨rfl, hO⟩ := hp
      subst O'
      rw [← hn]
      refine WXL.assign Met.none rfl ?_
      refine WXL.nil ?_
      refine Fin.then_normal ?_
      refine WX.seq ?_
      refine WX.region rfl ?_
      refine WXL.move Met.none rfl ?_
      refine WXL.rem Met.none rfl rfl (by omega) ?_
      refine WXL.build (c := [_, _, _, _, _]) Met.none rfl zero48 places48 rfl ?_
      refine WXL.alloc (c := [_, _, _, _, _]) Met.none zero48 rfl (fun b6 => ?_)
      refine WXL.st (vs := [_, _, _, _, _]) (c' := [_, _, _, _, _]) Met.none rfl rfl rfl sz48 ?_
      refine WXL.nil ?_
      refine Fin.then_normal ?_
      refine WX.seq ?_
      refine WX.seq ?_
      refine WX.region rfl ?_
      refine WXL.move Met.none rfl ?_
      refine WXL.move Met.none rfl ?_
      first | refine WXL.ix Met.none rfl rfl elem33 sz3 ?_ | refine WXL.ixS Met.none rfl rfl elem33 sz3 ?_
      first | refine WXL.ld Met.none rfl agg3 ?_ | refine WXL.ldS Met.none rfl agg3 ?_
      refine WXL.cl (O1 := _) Met.none rfl (fnOk_of Try.func12 (by decide +kernel)) rfl (fun _ h => h) (around_ok _ (nth l i) 16 hx64 (by decide)) (fun v O' hp => ?_)
      obtain ⟨rfl, hO⟩ := hp
      subst O'
      rw [← hsw]
      refine WXL.nil ?_
      refine Fin.then_normal ?_
      refine WX.block ?_
      refine WX.seq ?_
      refine WX.seq ?_
      refine WX.region rfl ?_
      refine WXL.bin Met.none rfl rfl rfl ?_
      refine WXL.assign Met.none rfl ?_
      refine WXL.nil ?_
      refine Fin.then_normal ?_
      refine WX.cond rfl (fun hc1 => ?_) (fun hc1 => ?_)
      · try simp only [cnd] at hc1
        rw [show decide (sw = 0) = true from decide_eq_true hc1]
        --know 52 t
        refine WX.skip ?_
        refine Fin.then_normal ?_
        refine WX.cond rfl (fun hc2 => ?_) (fun hc2 => nomatch hc2)
        refine WX.region rfl ?_
        refine WXL.fieldAddr (off' := 0) Met.none rfl Try.underlying48 rfl sz3 rfl ?_
        refine WXL.st (vs := [_]) (c' := [_, _, _, _, _]) Met.none rfl rfl rfl sz3 ?_
        refine WXL.nil ?_
        refine Fin.block_normal ?_
        refine Fin.then_normal ?_
        first
        | refine WX.re (O' := (b6, ⟨0, false, [Value.int .i64 0, Value.int .i64 (n.tmod 3), Value.int .i64 0, .slice a7 xs.length c7, .slice none 0 0]⟩) :: (G ++ ((G7 ++ N) ++ O))) ?_
        | refine WX.re (O' := (b6, ⟨0, false, [Value.int .i64 0, I (n.tmod 70 - 3), Value.int .i64 0, Row b105 0 1 1, .slice none 0 0]⟩) :: (G ++ (([(b105, ⟨1, false, [Value.int .u8 1]⟩)] ++ N) ++ O))) ?_
        | refine WX.re (O' := (b6, ⟨0, false, [Value.int .i64 4, Value.int .i64 (n.tmod 3), I ((n.tdiv 4).tmod 40 - 4), .slice none 0 0, .slice (some ⟨b90, 0, none⟩) m m]⟩) :: (G ++ (([(b90, ⟨1, false, [I (n.tmod 5 - 1), Value.int .i64 ((n.tdiv 5).tmod 5), Value.int .i64 ((n.tdiv 25).tmod 5)]⟩)] ++ N) ++ O))) ?_
        | skip
        refine WX.region rfl ?_
        refine WXL.move Met.none rfl ?_
        refine WXL.ldN (vs := [_, _, _, _, _]) Met.none rfl agg48 sz48 ?_
        refine WXL.buildSlice (c := [_, _, _, _, _]) Met.none rfl elem44 sz48 zero48 (by decide) (by decide) rfl rfl rfl rfl (fun b109 => ?_)
        refine WXL.apG [_, _] Met.none rfl rfl isrow44 elem44 sz48 by48 zero48 (Src.lit (cs := [_, _, _, _, _])) (fun a110 c110 G110 hG110 => ?_)
        refine WXL.assign Met.none rfl ?_
        refine WXL.nil ?_
        refine Fin.block_normal ?_
        refine Fin.then_normal ?_
        first
        | refine WX.re (O' := G110 ++ ((G7 ++ N) ++ O)) ?_
        | refine WX.re (O' := G110 ++ (([(b105, ⟨1, false, [Value.int .u8 1]⟩)] ++ N) ++ O)) ?_
        | refine WX.re (O' := G110 ++ (([(b90, ⟨1, false, [I (n.tmod 5 - 1), Value.int .i64 ((n.tdiv 5).tmod 5), Value.int .i64 ((n.tdiv 25).tmod 5)]⟩)] ++ N) ++ O)) ?_
        | refine WX.re (O' := G110 ++ (([] ++ N) ++ O)) ?_
        refine WX.region rfl ?_
        refine WXL.move Met.none rfl ?_
        refine WXL.bin Met.none rfl rfl bvA ?_
        refine WXL.assign Met.none rfl ?_
        refine WXL.nil ?_
        first
        | exact Fin.loop_next (⟨i + 1, ops ++ [(⟨0, n.tmod 3, 0, xs, [], a7, c7, none, 0⟩ : OpV)], a110, c110, G110, G7 ++ N⟩ : OpsS) (ops_next G7 (⟨0, n.tmod 3, 0, xs, [], a7, c7, none, 0⟩ : OpV) (by omega) (by omega) hol hG110 hok ⟨hG7.rowy, fun q => (hG7.nil0 q).1, hxB, by simp only; omega, nil_row, fun _ => rfl, Nat.zero_le _, (fun x hx => by simp at hx), ⟨by simp only; omega, by simp only; omega⟩, by simp only; omega⟩) (by simp only; omega) (fun s hs => by dsimp only; rw [List.length_append]; exact hs.tl [] 0)
        | exact Fin.loop_next (⟨i + 1, ops ++ [(⟨0, n.tmod 70 - 3, 0, [1], [], some ⟨b105, 0, none⟩, 1, none, 0⟩ : OpV)], a110, c110, G110, [(b105, ⟨1, false, [Value.int .u8 1]⟩)] ++ N⟩ : OpsS) (ops_next [(b105, ⟨1, false, [Value.int .u8 1]⟩)] (⟨0, n.tmod 70 - 3, 0, [1], [], some ⟨b105, 0, none⟩, 1, none, 0⟩ : OpV) (by omega) (by omega) hol hG110 hok ⟨h1row _ (Knows.at 0 rfl), (fun q => by cases q), (fun x hx => by rw [List.mem_singleton.1 hx]; decide), Nat.le_of_ble_eq_true rfl, nil_row, fun _ => rfl, Nat.zero_le _, (fun x hx => by simp at hx), ⟨by simp only; omega, by simp only; omega⟩, by simp only; omega⟩) (by simp only; omega) (fun s hs => by dsimp only; rw [List.length_append]; exact hs.tl [] 0)
        | exact Fin.loop_next (⟨i + 1, ops ++ [(⟨4, n.tmod 3, (n.tdiv 4).tmod 40 - 4, [], ([n.tmod 5 - 1, (n.tdiv 5).tmod 5, (n.tdiv 25).tmod 5].take m), none, 0, some ⟨b90, 0, none⟩, m⟩ : OpV)], a110, c110, G110, [(b90, ⟨1, false, [I (n.tmod 5 - 1), Value.int .i64 ((n.tdiv 5).tmod 5), Value.int .i64 ((n.tdiv 25).tmod 5)]⟩)] ++ N⟩ : OpsS) (ops_next [(b90, ⟨1, false, [I (n.tmod 5 - 1), Value.int .i64 ((n.tdiv 5).tmod 5), Value.int .i64 ((n.tdiv 25).tmod 5)]⟩)] (⟨4, n.tmod 3, (n.tdiv 4).tmod 40 - 4, [], ([n.tmod 5 - 1, (n.tdiv 5).tmod 5, (n.tdiv 25).tmod 5].take m), none, 0, some ⟨b90, 0, none⟩, m⟩ : OpV) (by omega) (by omega) hol (by unfold encV; simp only; rw [hkl]; exact hG110) hok ⟨nil_row, fun _ => rfl, (fun x hx => by simp at hx), Nat.zero_le _, hkrow _ (Knows.at 0 rfl), (fun q => by cases q), hkl3, hk64, ⟨by simp only; omega, by simp only; omega⟩, by simp only; omega⟩) (by simp only; omega) (fun s hs => by dsimp only; rw [List.length_append]; exact hs.tl [] 0)
        | exact Fin.loop_next (⟨i + 1, ops ++ [(⟨1, n.tmod 3, 0, [], [], none, 0, none, 0⟩ : OpV)], a110, c110, G110, [] ++ N⟩ : OpsS) (ops_next [] (⟨1, n.tmod 3, 0, [], [], none, 0, none, 0⟩ : OpV) (by omega) (by omega) hol hG110 hok ⟨nil_row, fun _ => rfl, (fun x hx => by simp at hx), Nat.zero_le _, nil_row, fun _ => rfl, Nat.zero_le _, (fun x hx => by simp at hx), ⟨by simp only; omega, by simp only; omega⟩, by simp only; omega⟩) (by simp only; omega) (fun s hs => by dsimp only; rw [List.length_append]; exact hs.tl [] 0)
        | exact Fin.loop_next (⟨i + 1, ops ++ [(⟨2, n.tmod 3, (n.tdiv 3).tmod 9 - 1, [], [], none, 0, none, 0⟩ : OpV)], a110, c110, G110, [] ++ N⟩ : OpsS) (ops_next [] (⟨2, n.tmod 3, (n.tdiv 3).tmod 9 - 1, [], [], none, 0, none, 0⟩ : OpV) (by omega) (by omega) hol hG110 hok ⟨nil_row, fun _ => rfl, (fun x hx => by simp at hx), Nat.zero_le _, nil_row, fun _ => rfl, Nat.zero_le _, (fun x hx => by simp at hx), ⟨by simp only; omega, by simp only; omega⟩, by simp only; omega⟩) (by simp only; omega) (fun s hs => by dsimp only; rw [List.length_append]; exact hs.tl [] 0)
        | exact Fin.loop_next (⟨i + 1, ops ++ [(⟨3, n.tmod 3, (n.tdiv 3).tmod 7 - 1, [], [], none, 0, none, 0⟩ : OpV)], a110, c110, G110, [] ++ N⟩ : OpsS) (ops_next [] (⟨3, n.tmod 3, (n.tdiv 3).tmod 7 - 1, [], [], none, 0, none, 0⟩ : OpV) (by omega) (by omega) hol hG110 hok ⟨nil_row, fun _ => rfl, (fun x hx => by simp at hx), Nat.zero_le _, nil_row, fun _ => rfl, Nat.zero_le _, (fun x hx => by simp at hx), ⟨by simp only; omega, by simp only; omega⟩, by simp only; omega⟩) (by simp only; omega) (fun s hs => by dsimp only; rw [List.length_append]; exact hs.tl [] 0)
      · try simp only [cnd] at hc1
        refine WX.region rfl ?_
        refine WXL.bin Met.none rfl rfl rfl ?_
        refine WXL.assign Met.none rfl ?_
        refine WXL.nil ?_
        refine Fin.then_normal ?_
        refine WX.cond rfl (fun hc2 => ?_) (fun hc2 => ?_)
        · try simp only [cnd] at hc2
          refine WX.region rfl ?_
          refine WXL.fieldAddr (off' := 0) Met.none rfl Try.underlying48 rfl sz3 rfl ?_
          refine WXL.st (vs := [_]) (c' := [_, _, _, _, _]) Met.none rfl rfl rfl sz3 ?_
          refine WXL.nil ?_
          refine Fin.block_normal ?_
          refine Fin.then_normal ?_
          first
          | refine WX.re (O' := (b6, ⟨0, false, [Value.int .i64 0, Value.int .i64 (n.tmod 3), Value.int .i64 0, .slice a7 xs.length c7, .slice none 0 0]⟩) :: (G ++ ((G7 ++ N) ++ O))) ?_
          | refine WX.re (O' := (b6, ⟨0, false, [Value.int .i64 0, I (n.tmod 70 - 3), Value.int .i64 0, Row b105 0 1 1, .slice none 0 0]⟩) :: (G ++ (([(b105, ⟨1, false, [Value.int .u8 1]⟩)] ++ N) ++ O))) ?_
          | refine WX.re (O' := (b6, ⟨0, false, [Value.int .i64 4, Value.int .i64 (n.tmod 3), I ((n.tdiv 4).tmod 40 - 4), .slice none 0 0, .slice (some ⟨b90, 0, none⟩) m m]⟩) :: (G ++ (([(b90, ⟨1, false, [I (n.tmod 5 - 1), Value.int .i64 ((n.tdiv 5).tmod 5), Value.int .i64 ((n.tdiv 25).tmod 5)]⟩)] ++ N) ++ O))) ?_
          | skip
          refine WX.region rfl ?_
          refine WXL.move Met.none rfl ?_
          refine WXL.ldN (vs := [_, _, _, _, _]) Met.none rfl agg48 sz48 ?_
          refine WXL.buildSlice (c := [_, _, _, _, _]) Met.none rfl elem44 sz48 zero48 (by decide) (by decide) rfl rfl rfl rfl (fun b109 => ?_)
          refine WXL.apG [_, _] Met.none rfl rfl isrow44 elem44 sz48 by48 zero48 (Src.lit (cs := [_, _, _, _, _])) (fun a110 c110 G110 hG110 => ?_)
          refine WXL.assign Met.none rfl ?_
          refine WXL.nil ?_
          refine Fin.block_normal ?_
          refine Fin.then_normal ?_
          first
          | refine WX.re (O' := G110 ++ ((G7 ++ N) ++ O)) ?_
          | refine WX.re (O' := G110 ++ (([(b105, ⟨1, false, [Value.int .u8 1]⟩)] ++ N) ++ O)) ?_
          | refine WX.re (O' := G110 ++ (([(b90, ⟨1, false, [I (n.tmod 5 - 1), Value.int .i64 ((n.tdiv 5).tmod 5), Value.int .i64 ((n.tdiv 25).tmod 5)]⟩)] ++ N) ++ O)) ?_
          | refine WX.re (O' := G110 ++ (([] ++ N) ++ O)) ?_
          refine WX.region rfl ?_
          refine WXL.move Met.none rfl ?_
          refine WXL.bin Met.none rfl rfl bvA ?_
          refine WXL.assign Met.none rfl ?_
          refine WXL.nil ?_
          first
          | exact Fin.loop_next (⟨i + 1, ops ++ [(⟨0, n.tmod 3, 0, xs, [], a7, c7, none, 0⟩ : OpV)], a110, c110, G110, G7 ++ N⟩ : OpsS) (ops_next G7 (⟨0, n.tmod 3, 0, xs, [], a7, c7, none, 0⟩ : OpV) (by omega) (by omega) hol hG110 hok ⟨hG7.rowy, fun q => (hG7.nil0 q).1, hxB, by simp only; omega, nil_row, fun _ => rfl, Nat.zero_le _, (fun x hx => by simp at hx), ⟨by simp only; omega, by simp only; omega⟩, by simp only; omega⟩) (by simp only; omega) (fun s hs => by dsimp only; rw [List.length_append]; exact hs.tl [] 0)
          | exact Fin.loop_next (⟨i + 1, ops ++ [(⟨0, n.tmod 70 - 3, 0, [1], [], some ⟨b105, 0, none⟩, 1, none, 0⟩ : OpV)], a110, c110, G110, [(b105, ⟨1, false, [Value.int .u8 1]⟩)] ++ N⟩ : OpsS) (ops_next [(b105, ⟨1, false, [Value.int .u8 1]⟩)] (⟨0, n.tmod 70 - 3, 0, [1], [], some ⟨b105, 0, none⟩, 1, none, 0⟩ : OpV) (by omega) (by omega) hol hG110 hok ⟨h1row _ (Knows.at 0 rfl), (fun q => by cases q), (fun x hx => by rw [List.mem_singleton.1 hx]; decide), Nat.le_of_ble_eq_true rfl, nil_row, fun _ => rfl, Nat.zero_le _, (fun x hx => by simp at hx), ⟨by simp only; omega, by simp only; omega⟩, by simp only; omega⟩) (by simp only; omega) (fun s hs => by dsimp only; rw [List.length_append]; exact hs.tl [] 0)
          | exact Fin.loop_next (⟨i + 1, ops ++ [(⟨4, n.tmod 3, (n.tdiv 4).tmod 40 - 4, [], ([n.tmod 5 - 1, (n.tdiv 5).tmod 5, (n.tdiv 25).tmod 5].take m), none, 0, some ⟨b90, 0, none⟩, m⟩ : OpV)], a110, c110, G110, [(b90, ⟨1, false, [I (n.tmod 5 - 1), Value.int .i64 ((n.tdiv 5).tmod 5), Value.int .i64 ((n.tdiv 25).tmod 5)]⟩)] ++ N⟩ : OpsS) (ops_next [(b90, ⟨1, false, [I (n.tmod 5 - 1), Value.int .i64 ((n.tdiv 5).tmod 5), Value.int .i64 ((n.tdiv 25).tmod 5)]⟩)] (⟨4, n.tmod 3, (n.tdiv 4).tmod 40 - 4, [], ([n.tmod 5 - 1, (n.tdiv 5).tmod 5, (n.tdiv 25).tmod 5].take m), none, 0, some ⟨b90, 0, none⟩, m⟩ : OpV) (by omega) (by omega) hol (by unfold encV; simp only; rw [hkl]; exact hG110) hok ⟨nil_row, fun _ => rfl, (fun x hx => by simp at hx), Nat.zero_le _, hkrow _ (Knows.at 0 rfl), (fun q => by cases q), hkl3, hk64, ⟨by simp only; omega, by simp only; omega⟩, by simp only; omega⟩) (by simp only; omega) (fun s hs => by dsimp only; rw [List.length_append]; exact hs.tl [] 0)
          | exact Fin.loop_next (⟨i + 1, ops ++ [(⟨1, n.tmod 3, 0, [], [], none, 0, none, 0⟩ : OpV)], a110, c110, G110, [] ++ N⟩ : OpsS) (ops_next [] (⟨1, n.tmod 3, 0, [], [], none, 0, none, 0⟩ : OpV) (by omega) (by omega) hol hG110 hok ⟨nil_row, fun _ => rfl, (fun x hx => by simp at hx), Nat.zero_le _, nil_row, fun _ => rfl, Nat.zero_le _, (fun x hx => by simp at hx), ⟨by simp only; omega, by simp only; omega⟩, by simp only; omega⟩) (by simp only; omega) (fun s hs => by dsimp only; rw [List.length_append]; exact hs.tl [] 0)
          | exact Fin.loop_next (⟨i + 1, ops ++ [(⟨2, n.tmod 3, (n.tdiv 3).tmod 9 - 1, [], [], none, 0, none, 0⟩ : OpV)], a110, c110, G110, [] ++ N⟩ : OpsS) (ops_next [] (⟨2, n.tmod 3, (n.tdiv 3).tmod 9 - 1, [], [], none, 0, none, 0⟩ : OpV) (by omega) (by omega) hol hG110 hok ⟨nil_row, fun _ => rfl, (fun x hx => by simp at hx), Nat.zero_le _, nil_row, fun _ => rfl, Nat.zero_le _, (fun x hx => by simp at hx), ⟨by simp only; omega, by simp only; omega⟩, by simp only; omega⟩) (by simp only; omega) (fun s hs => by dsimp only; rw [List.length_append]; exact hs.tl [] 0)
          | exact Fin.loop_next (⟨i + 1, ops ++ [(⟨3, n.tmod 3, (n.tdiv 3).tmod 7 - 1, [], [], none, 0, none, 0⟩ : OpV)], a110, c110, G110, [] ++ N⟩ : OpsS) (ops_next [] (⟨3, n.tmod 3, (n.tdiv 3).tmod 7 - 1, [], [], none, 0, none, 0⟩ : OpV) (by omega) (by omega) hol hG110 hok ⟨nil_row, fun _ => rfl, (fun x hx => by simp at hx), Nat.zero_le _, nil_row, fun _ => rfl, Nat.zero_le _, (fun x hx => by simp at hx), ⟨by simp only; omega, by simp only; omega⟩, by simp only; omega⟩) (by simp only; omega) (fun s hs => by dsimp only; rw [List.length_append]; exact hs.tl [] 0)
        · try simp only [cnd] at hc2
          refine WX.seq ?_
          refine WX.region rfl ?_
          refine WXL.bin Met.none rfl rfl rfl ?_
          refine WXL.assign Met.none rfl ?_
          refine WXL.nil ?_
          refine Fin.then_normal ?_
          refine WX.cond rfl (fun hc3 => ?_) (fun hc3 => ?_)
          · try simp only [cnd] at hc3
            refine WX.seq ?_
            refine WX.region rfl ?_
            refine WXL.fieldAddr (off' := 0) Met.none rfl Try.underlying48 rfl sz3 rfl ?_
            refine WXL.st (vs := [_]) (c' := [_, _, _, _, _]) Met.none rfl rfl rfl sz3 ?_
            refine WXL.nil ?_
            refine Fin.then_normal ?_
            refine WX.region rfl ?_
            refine WXL.move Met.none rfl ?_
            refine WXL.qu Met.none rfl rfl ?_
            refine WXL.rem Met.none rfl rfl (by omega) ?_
            refine WXL.bin Met.none rfl rfl bvS ?_
            refine WXL.fieldAddr (off' := 2) Met.none rfl Try.underlying48 rfl sz3 rfl ?_
            refine WXL.st (vs := [_]) (c' := [_, _, _, _, _]) Met.none rfl rfl rfl sz3 ?_
            refine WXL.nil ?_
            refine Fin.block_normal ?_
            refine Fin.then_normal ?_
            first
            | refine WX.re (O' := (b6, ⟨0, false, [Value.int .i64 0, Value.int .i64 (n.tmod 3), Value.int .i64 0, .slice a7 xs.length c7, .slice none 0 0]⟩) :: (G ++ ((G7 ++ N) ++ O))) ?_
            | refine WX.re (O' := (b6, ⟨0, false, [Value.int .i64 0, I (n.tmod 70 - 3), Value.int .i64 0, Row b105 0 1 1, .slice none 0 0]⟩) :: (G ++ (([(b105, ⟨1, false, [Value.int .u8 1]⟩)] ++ N) ++ O))) ?_
            | refine WX.re (O' := (b6, ⟨0, false, [Value.int .i64 4, Value.int .i64 (n.tmod 3), I ((n.tdiv 4).tmod 40 - 4), .slice none 0 0, .slice (some ⟨b90, 0, none⟩) m m]⟩) :: (G ++ (([(b90, ⟨1, false, [I (n.tmod 5 - 1), Value.int .i64 ((n.tdiv 5).tmod 5), Value.int .i64 ((n.tdiv 25).tmod 5)]⟩)] ++ N) ++ O))) ?_
            | skip
            refine WX.region rfl ?_
            refine WXL.move Met.none rfl ?_
            refine WXL.ldN (vs := [_, _, _, _, _]) Met.none rfl agg48 sz48 ?_
            refine WXL.buildSlice (c := [_, _, _, _, _]) Met.none rfl elem44 sz48 zero48 (by decide) (by decide) rfl rfl rfl rfl (fun b109 => ?_)
            refine WXL.apG [_, _] Met.none rfl rfl isrow44 elem44 sz48 by48 zero48 (Src.lit (cs := [_, _, _, _, _])) (fun a110 c110 G110 hG110 => ?_)
            refine WXL.assign Met.none rfl ?_
            refine WXL.nil ?_
            refine Fin.block_normal ?_
            refine Fin.then_normal ?_
            first
            | refine WX.re (O' := G110 ++ ((G7 ++ N) ++ O)) ?_
            | refine WX.re (O' := G110 ++ (([(b105, ⟨1, false, [Value.int .u8 1]⟩)] ++ N) ++ O)) ?_
            | refine WX.re (O' := G110 ++ (([(b90, ⟨1, false, [I (n.tmod 5 - 1), Value.int .i64 ((n.tdiv 5).tmod 5), Value.int .i64 ((n.tdiv 25).tmod 5)]⟩)] ++ N) ++ O)) ?_
            | refine WX.re (O' := G110 ++ (([] ++ N) ++ O)) ?_
            refine WX.region rfl ?_
            refine WXL.move Met.none rfl ?_
            refine WXL.bin Met.none rfl rfl bvA ?_
            refine WXL.assign Met.none rfl ?_
            refine WXL.nil ?_
            first
            | exact Fin.loop_next (⟨i + 1, ops ++ [(⟨0, n.tmod 3, 0, xs, [], a7, c7, none, 0⟩ : OpV)], a110, c110, G110, G7 ++ N⟩ : OpsS) (ops_next G7 (⟨0, n.tmod 3, 0, xs, [], a7, c7, none, 0⟩ : OpV) (by omega) (by omega) hol hG110 hok ⟨hG7.rowy, fun q => (hG7.nil0 q).1, hxB, by simp only; omega, nil_row, fun _ => rfl, Nat.zero_le _, (fun x hx => by simp at hx), ⟨by simp only; omega, by simp only; omega⟩, by simp only; omega⟩) (by simp only; omega) (fun s hs => by dsimp only; rw [List.length_append]; exact hs.tl [] 0)
            | exact Fin.loop_next (⟨i + 1, ops ++ [(⟨0, n.tmod 70 - 3, 0, [1], [], some ⟨b105, 0, none⟩, 1, none, 0⟩ : OpV)], a110, c110, G110, [(b105, ⟨1, false, [Value.int .u8 1]⟩)] ++ N⟩ : OpsS) (ops_next [(b105, ⟨1, false, [Value.int .u8 1]⟩)] (⟨0, n.tmod 70 - 3, 0, [1], [], some ⟨b105, 0, none⟩, 1, none, 0⟩ : OpV) (by omega) (by omega) hol hG110 hok ⟨h1row _ (Knows.at 0 rfl), (fun q => by cases q), (fun x hx => by rw [List.mem_singleton.1 hx]; decide), Nat.le_of_ble_eq_true rfl, nil_row, fun _ => rfl, Nat.zero_le _, (fun x hx => by simp at hx), ⟨by simp only; omega, by simp only; omega⟩, by simp only; omega⟩) (by simp only; omega) (fun s hs => by dsimp only; rw [List.length_append]; exact hs.tl [] 0)
            | exact Fin.loop_next (⟨i + 1, ops ++ [(⟨4, n.tmod 3, (n.tdiv 4).tmod 40 - 4, [], ([n.tmod 5 - 1, (n.tdiv 5).tmod 5, (n.tdiv 25).tmod 5].take m), none, 0, some ⟨b90, 0, none⟩, m⟩ : OpV)], a110, c110, G110, [(b90, ⟨1, false, [I (n.tmod 5 - 1), Value.int .i64 ((n.tdiv 5).tmod 5), Value.int .i64 ((n.tdiv 25).tmod 5)]⟩)] ++ N⟩ : OpsS) (ops_next [(b90, ⟨1, false, [I (n.tmod 5 - 1), Value.int .i64 ((n.tdiv 5).tmod 5), Value.int .i64 ((n.tdiv 25).tmod 5)]⟩)] (⟨4, n.tmod 3, (n.tdiv 4).tmod 40 - 4, [], ([n.tmod 5 - 1, (n.tdiv 5).tmod 5, (n.tdiv 25).tmod 5].take m), none, 0, some ⟨b90, 0, none⟩, m⟩ : OpV) (by omega) (by omega) hol (by unfold encV; simp only; rw [hkl]; exact hG110) hok ⟨nil_row, fun _ => rfl, (fun x hx => by simp at hx), Nat.zero_le _, hkrow _ (Knows.at 0 rfl), (fun q => by cases q), hkl3, hk64, ⟨by simp only; omega, by simp only; omega⟩, by simp only; omega⟩) (by simp only; omega) (fun s hs => by dsimp only; rw [List.length_append]; exact hs.tl [] 0)
            | exact Fin.loop_next (⟨i + 1, ops ++ [(⟨1, n.tmod 3, 0, [], [], none, 0, none, 0⟩ : OpV)], a110, c110, G110, [] ++ N⟩ : OpsS) (ops_next [] (⟨1, n.tmod 3, 0, [], [], none, 0, none, 0⟩ : OpV) (by omega) (by omega) hol hG110 hok ⟨nil_row, fun _ => rfl, (fun x hx => by simp at hx), Nat.zero_le _, nil_row, fun _ => rfl, Nat.zero_le _, (fun x hx => by simp at hx), ⟨by simp only; omega, by simp only; omega⟩, by simp only; omega⟩) (by simp only; omega) (fun s hs => by dsimp only; rw [List.length_append]; exact hs.tl [] 0)
            | exact Fin.loop_next (⟨i + 1, ops ++ [(⟨2, n.tmod 3, (n.tdiv 3).tmod 9 - 1, [], [], none, 0, none, 0⟩ : OpV)], a110, c110, G110, [] ++ N⟩ : OpsS) (ops_next [] (⟨2, n.tmod 3, (n.tdiv 3).tmod 9 - 1, [], [], none, 0, none, 0⟩ : OpV) (by omega) (by omega) hol hG110 hok ⟨nil_row, fun _ => rfl, (fun x hx => by simp at hx), Nat.zero_le _, nil_row, fun _ => rfl, Nat.zero_le _, (fun x hx => by simp at hx), ⟨by simp only; omega, by simp only; omega⟩, by simp only; omega⟩) (by simp only; omega) (fun s hs => by dsimp only; rw [List.length_append]; exact hs.tl [] 0)
            | exact Fin.loop_next (⟨i + 1, ops ++ [(⟨3, n.tmod 3, (n.tdiv 3).tmod 7 - 1, [], [], none, 0, none, 0⟩ : OpV)], a110, c110, G110, [] ++ N⟩ : OpsS) (ops_next [] (⟨3, n.tmod 3, (n.tdiv 3).tmod 7 - 1, [], [], none, 0, none, 0⟩ : OpV) (by omega) (by omega) hol hG110 hok ⟨nil_row, fun _ => rfl, (fun x hx => by simp at hx), Nat.zero_le _, nil_row, fun _ => rfl, Nat.zero_le _, (fun x hx => by simp at hx), ⟨by simp only; omega, by simp only; omega⟩, by simp only; omega⟩) (by simp only; omega) (fun s hs => by dsimp only; rw [List.length_append]; exact hs.tl [] 0)
          · try simp only [cnd] at hc3
            refine WX.seq ?_
            refine WX.region rfl ?_
            refine WXL.bin Met.none rfl rfl rfl ?_
            refine WXL.assign Met.none rfl ?_
            refine WXL.nil ?_
            refine Fin.then_normal ?_
            refine WX.cond rfl (fun hc4 => ?_) (fun hc4 => ?_)
            · try simp only [cnd] at hc4
              refine WX.seq ?_
              refine WX.region rfl ?_
              refine WXL.fieldAddr (off' := 0) Met.none rfl Try.underlying48 rfl sz3 rfl ?_
              refine WXL.st (vs := [_]) (c' := [_, _, _, _, _]) Met.none rfl rfl rfl sz3 ?_
              refine WXL.nil ?_
              refine Fin.then_normal ?_
              refine WX.region rfl ?_
              refine WXL.move Met.none rfl ?_
              refine WXL.qu Met.none rfl rfl ?_
              refine WXL.rem Met.none rfl rfl (by omega) ?_
              refine WXL.bin Met.none rfl rfl bvS ?_
              refine WXL.fieldAddr (off' := 2) Met.none rfl Try.underlying48 rfl sz3 rfl ?_
              refine WXL.st (vs := [_]) (c' := [_, _, _, _, _]) Met.none rfl rfl rfl sz3 ?_
              refine WXL.nil ?_
              refine Fin.block_normal ?_
              refine Fin.then_normal ?_
              first
              | refine WX.re (O' := (b6, ⟨0, false, [Value.int .i64 0, Value.int .i64 (n.tmod 3), Value.int .i64 0, .slice a7 xs.length c7, .slice none 0 0]⟩) :: (G ++ ((G7 ++ N) ++ O))) ?_
              | refine WX.re (O' := (b6, ⟨0, false, [Value.int .i64 0, I (n.tmod 70 - 3), Value.int .i64 0, Row b105 0 1 1, .slice none 0 0]⟩) :: (G ++ (([(b105, ⟨1, false, [Value.int .u8 1]⟩)] ++ N) ++ O))) ?_
              | refine WX.re (O' := (b6, ⟨0, false, [Value.int .i64 4, Value.int .i64 (n.tmod 3), I ((n.tdiv 4).tmod 40 - 4), .slice none 0 0, .slice (some ⟨b90, 0, none⟩) m m]⟩) :: (G ++ (([(b90, ⟨1, false, [I (n.tmod 5 - 1), Value.int .i64 ((n.tdiv 5).tmod 5), Value.int .i64 ((n.tdiv 25).tmod 5)]⟩)] ++ N) ++ O))) ?_
              | skip
              refine WX.region rfl ?_
              refine WXL.move Met.none rfl ?_
              refine WXL.ldN (vs := [_, _, _, _, _]) Met.none rfl agg48 sz48 ?_
              refine WXL.buildSlice (c := [_, _, _, _, _]) Met.none rfl elem44 sz48 zero48 (by decide) (by decide) rfl rfl rfl rfl (fun b109 => ?_)
              refine WXL.apG [_, _] Met.none rfl rfl isrow44 elem44 sz48 by48 zero48 (Src.lit (cs := [_, _, _, _, _])) (fun a110 c110 G110 hG110 => ?_)
              refine WXL.assign Met.none rfl ?_
              refine WXL.nil ?_
              refine Fin.block_normal ?_
              refine Fin.then_normal ?_
              first
              | refine WX.re (O' := G110 ++ ((G7 ++ N) ++ O)) ?_
              | refine WX.re (O' := G110 ++ (([(b105, ⟨1, false, [Value.int .u8 1]⟩)] ++ N) ++ O)) ?_
              | refine WX.re (O' := G110 ++ (([(b90, ⟨1, false, [I (n.tmod 5 - 1), Value.int .i64 ((n.tdiv 5).tmod 5), Value.int .i64 ((n.tdiv 25).tmod 5)]⟩)] ++ N) ++ O)) ?_
              | refine WX.re (O' := G110 ++ (([] ++ N) ++ O)) ?_
              refine WX.region rfl ?_
              refine WXL.move Met.none rfl ?_
              refine WXL.bin Met.none rfl rfl bvA ?_
              refine WXL.assign Met.none rfl ?_
              refine WXL.nil ?_
              first
              | exact Fin.loop_next (⟨i + 1, ops ++ [(⟨0, n.tmod 3, 0, xs, [], a7, c7, none, 0⟩ : OpV)], a110, c110, G110, G7 ++ N⟩ : OpsS) (ops_next G7 (⟨0, n.tmod 3, 0, xs, [], a7, c7, none, 0⟩ : OpV) (by omega) (by omega) hol hG110 hok ⟨hG7.rowy, fun q => (hG7.nil0 q).1, hxB, by simp only; omega, nil_row, fun _ => rfl, Nat.zero_le _, (fun x hx => by simp at hx), ⟨by simp only; omega, by simp only; omega⟩, by simp only; omega⟩) (by simp only; omega) (fun s hs => by dsimp only; rw [List.length_append]; exact hs.tl [] 0)
              | exact Fin.loop_next (⟨i + 1, ops ++ [(⟨0, n.tmod 70 - 3, 0, [1], [], some ⟨b105, 0, none⟩, 1, none, 0⟩ : OpV)], a110, c110, G110, [(b105, ⟨1, false, [Value.int .u8 1]⟩)] ++ N⟩ : OpsS) (ops_next [(b105, ⟨1, false, [Value.int .u8 1]⟩)] (⟨0, n.tmod 70 - 3, 0, [1], [], some ⟨b105, 0, none⟩, 1, none, 0⟩ : OpV) (by omega) (by omega) hol hG110 hok ⟨h1row _ (Knows.at 0 rfl), (fun q => by cases q), (fun x hx => by rw [List.mem_singleton.1 hx]; decide), Nat.le_of_ble_eq_true rfl, nil_row, fun _ => rfl, Nat.zero_le _, (fun x hx => by simp at hx), ⟨by simp only; omega, by simp only; omega⟩, by simp only; omega⟩) (by simp only; omega) (fun s hs => by dsimp only; rw [List.length_append]; exact hs.tl [] 0)
              | exact Fin.loop_next (⟨i + 1, ops ++ [(⟨4, n.tmod 3, (n.tdiv 4).tmod 40 - 4, [], ([n.tmod 5 - 1, (n.tdiv 5).tmod 5, (n.tdiv 25).tmod 5].take m), none, 0, some ⟨b90, 0, none⟩, m⟩ : OpV)], a110, c110, G110, [(b90, ⟨1, false, [I (n.tmod 5 - 1), Value.int .i64 ((n.tdiv 5).tmod 5), Value.int .i64 ((n.tdiv 25).tmod 5)]⟩)] ++ N⟩ : OpsS) (ops_next [(b90, ⟨1, false, [I (n.tmod 5 - 1), Value.int .i64 ((n.tdiv 5).tmod 5), Value.int .i64 ((n.tdiv 25).tmod 5)]⟩)] (⟨4, n.tmod 3, (n.tdiv 4).tmod 40 - 4, [], ([n.tmod 5 - 1, (n.tdiv 5).tmod 5, (n.tdiv 25).tmod 5].take m), none, 0, some ⟨b90, 0, none⟩, m⟩ : OpV) (by omega) (by omega) hol (by unfold encV; simp only; rw [hkl]; exact hG110) hok ⟨nil_row, fun _ => rfl, (fun x hx => by simp at hx), Nat.zero_le _, hkrow _ (Knows.at 0 rfl), (fun q => by cases q), hkl3, hk64, ⟨by simp only; omega, by simp only; omega⟩, by simp only; omega⟩) (by simp only; omega) (fun s hs => by dsimp only; rw [List.length_append]; exact hs.tl [] 0)
              | exact Fin.loop_next (⟨i + 1, ops ++ [(⟨1, n.tmod 3, 0, [], [], none, 0, none, 0⟩ : OpV)], a110, c110, G110, [] ++ N⟩ : OpsS) (ops_next [] (⟨1, n.tmod 3, 0, [], [], none, 0, none, 0⟩ : OpV) (by omega) (by omega) hol hG110 hok ⟨nil_row, fun _ => rfl, (fun x hx => by simp at hx), Nat.zero_le _, nil_row, fun _ => rfl, Nat.zero_le _, (fun x hx => by simp at hx), ⟨by simp only; omega, by simp only; omega⟩, by simp only; omega⟩) (by simp only; omega) (fun s hs => by dsimp only; rw [List.length_append]; exact hs.tl [] 0)
              | exact Fin.loop_next (⟨i + 1, ops ++ [(⟨2, n.tmod 3, (n.tdiv 3).tmod 9 - 1, [], [], none, 0, none, 0⟩ : OpV)], a110, c110, G110, [] ++ N⟩ : OpsS) (ops_next [] (⟨2, n.tmod 3, (n.tdiv 3).tmod 9 - 1, [], [], none, 0, none, 0⟩ : OpV) (by omega) (by omega) hol hG110 hok ⟨nil_row, fun _ => rfl, (fun x hx => by simp at hx), Nat.zero_le _, nil_row, fun _ => rfl, Nat.zero_le _, (fun x hx => by simp at hx), ⟨by simp only; omega, by simp only; omega⟩, by simp only; omega⟩) (by simp only; omega) (fun s hs => by dsimp only; rw [List.length_append]; exact hs.tl [] 0)
              | exact Fin.loop_next (⟨i + 1, ops ++ [(⟨3, n.tmod 3, (n.tdiv 3).tmod 7 - 1, [], [], none, 0, none, 0⟩ : OpV)], a110, c110, G110, [] ++ N⟩ : OpsS) (ops_next [] (⟨3, n.tmod 3, (n.tdiv 3).tmod 7 - 1, [], [], none, 0, none, 0⟩ : OpV) (by omega) (by omega) hol hG110 hok ⟨nil_row, fun _ => rfl, (fun x hx => by simp at hx), Nat.zero_le _, nil_row, fun _ => rfl, Nat.zero_le _, (fun x hx => by simp at hx), ⟨by simp only; omega, by simp only; omega⟩, by simp only; omega⟩) (by simp only; omega) (fun s hs => by dsimp only; rw [List.length_append]; exact hs.tl [] 0)
            · try simp only [cnd] at hc4
              refine WX.seq ?_
              refine WX.seq ?_
              refine WX.region rfl ?_
              refine WXL.bin Met.none rfl rfl rfl ?_
              refine WXL.assign Met.none rfl ?_
              refine WXL.nil ?_
              refine Fin.then_normal ?_
              refine WX.cond rfl (fun hc5 => ?_) (fun hc5 => ?_)
              · try simp only [cnd] at hc5
                rw [show decide (sw = 4) = true from decide_eq_true hc5]
                --know 72 t
                refine WX.skip ?_
                refine Fin.then_normal ?_
                refine WX.cond rfl (fun hc6 => ?_) (fun hc6 => nomatch hc6)
                refine WX.seq ?_
                refine WX.region rfl ?_
                refine WXL.fieldAddr (off' := 0) Met.none rfl Try.underlying48 rfl sz3 rfl ?_
                refine WXL.st (vs := [_]) (c' := [_, _, _, _, _]) Met.none rfl rfl rfl sz3 ?_
                refine WXL.nil ?_
                refine Fin.then_normal ?_
                refine WX.seq ?_
                refine WX.region rfl ?_
                refine WXL.move Met.none rfl ?_
                refine WXL.qu Met.none rfl rfl ?_
                refine WXL.rem Met.none rfl rfl (by omega) ?_
                refine WXL.bin Met.none rfl rfl bvS ?_
                refine WXL.fieldAddr (off' := 2) Met.none rfl Try.underlying48 rfl sz3 rfl ?_
                refine WXL.st (vs := [_]) (c' := [_, _, _, _, _]) Met.none rfl rfl rfl sz3 ?_
                refine WXL.nil ?_
                refine Fin.then_normal ?_
                refine WX.seq ?_
                refine WX.region rfl ?_
                refine WXL.move Met.none rfl ?_
                refine WXL.rem Met.none rfl rfl (by omega) ?_
                refine WXL.bin Met.none rfl rfl bvS ?_
                refine WXL.move Met.none rfl ?_
                refine WXL.qu Met.none rfl rfl ?_
                refine WXL.rem Met.none rfl rfl (by omega) ?_
                refine WXL.move Met.none rfl ?_
                refine WXL.qu Met.none rfl rfl ?_
                refine WXL.rem Met.none rfl rfl (by omega) ?_
                refine WXL.buildSlice (c := [_, _, _]) Met.none rfl elem33 sz3 zero3 (by decide) (by decide) rfl rfl rfl rfl (fun b90 => ?_)
                refine WXL.fieldAddr (off' := 4) Met.none rfl Try.underlying48 rfl sz33 rfl ?_
                refine WXL.st (vs := [_]) (c' := [_, _, _, _, _]) Met.none rfl rfl rfl sz33 ?_
                refine WXL.nil ?_
                refine Fin.then_normal ?_
                refine WX.region rfl ?_
                refine WXL.fieldAddr (off' := 4) Met.none rfl Try.underlying48 rfl sz33 rfl ?_
                first | refine WXL.ld Met.none rfl agg33 ?_ | refine WXL.ldS Met.none rfl agg33 ?_
                refine WXL.move Met.none rfl ?_
                refine WXL.qu Met.none rfl rfl ?_
                refine WXL.rem Met.none rfl rfl (by omega) ?_
                refine WXL.pre (m := m) Met.none rfl rfl elem33 sz3 (Rowy.one at_ rfl rfl) (by intro h; cases h) ?_
                refine WXL.fieldAddr (off' := 4) Met.none rfl Try.underlying48 rfl sz33 rfl ?_
                refine WXL.st (vs := [_]) (c' := [_, _, _, _, _]) Met.none rfl rfl rfl sz33 ?_
                refine WXL.nil ?_
                refine Fin.block_normal ?_
                refine Fin.then_normal ?_
                first
                | refine WX.re (O' := (b6, ⟨0, false, [Value.int .i64 0, Value.int .i64 (n.tmod 3), Value.int .i64 0, .slice a7 xs.length c7, .slice none 0 0]⟩) :: (G ++ ((G7 ++ N) ++ O))) ?_
                | refine WX.re (O' := (b6, ⟨0, false, [Value.int .i64 0, I (n.tmod 70 - 3), Value.int .i64 0, Row b105 0 1 1, .slice none 0 0]⟩) :: (G ++ (([(b105, ⟨1, false, [Value.int .u8 1]⟩)] ++ N) ++ O))) ?_
                | refine WX.re (O' := (b6, ⟨0, false, [Value.int .i64 4, Value.int .i64 (n.tmod 3), I ((n.tdiv 4).tmod 40 - 4), .slice none 0 0, .slice (some ⟨b90, 0, none⟩) m m]⟩) :: (G ++ (([(b90, ⟨1, false, [I (n.tmod 5 - 1), Value.int .i64 ((n.tdiv 5).tmod 5), Value.int .i64 ((n.tdiv 25).tmod 5)]⟩)] ++ N) ++ O))) ?_
                | skip
                refine WX.region rfl ?_
                refine WXL.move Met.none rfl ?_
                refine WXL.ldN (vs := [_, _, _, _, _]) Met.none rfl agg48 sz48 ?_
                refine WXL.buildSlice (c := [_, _, _, _, _]) Met.none rfl elem44 sz48 zero48 (by decide) (by decide) rfl rfl rfl rfl (fun b109 => ?_)
                refine WXL.apG [_, _] Met.none rfl rfl isrow44 elem44 sz48 by48 zero48 (Src.lit (cs := [_, _, _, _, _])) (fun a110 c110 G110 hG110 => ?_)
                refine WXL.assign Met.none rfl ?_
                refine WXL.nil ?_
                refine Fin.block_normal ?_
                refine Fin.then_normal ?_
                first
                | refine WX.re (O' := G110 ++ ((G7 ++ N) ++ O)) ?_
                | refine WX.re (O' := G110 ++ (([(b105, ⟨1, false, [Value.int .u8 1]⟩)] ++ N) ++ O)) ?_
                | refine WX.re (O' := G110 ++ (([(b90, ⟨1, false, [I (n.tmod 5 - 1), Value.int .i64 ((n.tdiv 5).tmod 5), Value.int .i64 ((n.tdiv 25).tmod 5)]⟩)] ++ N) ++ O)) ?_
                | refine WX.re (O' := G110 ++ (([] ++ N) ++ O)) ?_
                refine WX.region rfl ?_
                refine WXL.move Met.none rfl ?_
                refine WXL.bin Met.none rfl rfl bvA ?_
                refine WXL.assign Met.none rfl ?_
                refine WXL.nil ?_
                first
                | exact Fin.loop_next (⟨i + 1, ops ++ [(⟨0, n.tmod 3, 0, xs, [], a7, c7, none, 0⟩ : OpV)], a110, c110, G110, G7 ++ N⟩ : OpsS) (ops_next G7 (⟨0, n.tmod 3, 0, xs, [], a7, c7, none, 0⟩ : OpV) (by omega) (by omega) hol hG110 hok ⟨hG7.rowy, fun q => (hG7.nil0 q).1, hxB, by simp only; omega, nil_row, fun _ => rfl, Nat.zero_le _, (fun x hx => by simp at hx), ⟨by simp only; omega, by simp only; omega⟩, by simp only; omega⟩) (by simp only; omega) (fun s hs => by dsimp only; rw [List.length_append]; exact hs.tl [] 0)
                | exact Fin.loop_next (⟨i + 1, ops ++ [(⟨0, n.tmod 70 - 3, 0, [1], [], some ⟨b105, 0, none⟩, 1, none, 0⟩ : OpV)], a110, c110, G110, [(b105, ⟨1, false, [Value.int .u8 1]⟩)] ++ N⟩ : OpsS) (ops_next [(b105, ⟨1, false, [Value.int .u8 1]⟩)] (⟨0, n.tmod 70 - 3, 0, [1], [], some ⟨b105, 0, none⟩, 1, none, 0⟩ : OpV) (by omega) (by omega) hol hG110 hok ⟨h1row _ (Knows.at 0 rfl), (fun q => by cases q), (fun x hx => by rw [List.mem_singleton.1 hx]; decide), Nat.le_of_ble_eq_true rfl, nil_row, fun _ => rfl, Nat.zero_le _, (fun x hx => by simp at hx), ⟨by simp only; omega, by simp only; omega⟩, by simp only; omega⟩) (by simp only; omega) (fun s hs => by dsimp only; rw [List.length_append]; exact hs.tl [] 0)
                | exact Fin.loop_next (⟨i + 1, ops ++ [(⟨4, n.tmod 3, (n.tdiv 4).tmod 40 - 4, [], ([n.tmod 5 - 1, (n.tdiv 5).tmod 5, (n.tdiv 25).tmod 5].take m), none, 0, some ⟨b90, 0, none⟩, m⟩ : OpV)], a110, c110, G110, [(b90, ⟨1, false, [I (n.tmod 5 - 1), Value.int .i64 ((n.tdiv 5).tmod 5), Value.int .i64 ((n.tdiv 25).tmod 5)]⟩)] ++ N⟩ : OpsS) (ops_next [(b90, ⟨1, false, [I (n.tmod 5 - 1), Value.int .i64 ((n.tdiv 5).tmod 5), Value.int .i64 ((n.tdiv 25).tmod 5)]⟩)] (⟨4, n.tmod 3, (n.tdiv 4).tmod 40 - 4, [], ([n.tmod 5 - 1, (n.tdiv 5).tmod 5, (n.tdiv 25).tmod 5].take m), none, 0, some ⟨b90, 0, none⟩, m⟩ : OpV) (by omega) (by omega) hol (by unfold encV; simp only; rw [hkl]; exact hG110) hok ⟨nil_row, fun _ => rfl, (fun x hx => by simp at hx), Nat.zero_le _, hkrow _ (Knows.at 0 rfl), (fun q => by cases q), hkl3, hk64, ⟨by simp only; omega, by simp only; omega⟩, by simp only; omega⟩) (by simp only; omega) (fun s hs => by dsimp only; rw [List.length_append]; exact hs.tl [] 0)
                | exact Fin.loop_next (⟨i + 1, ops ++ [(⟨1, n.tmod 3, 0, [], [], none, 0, none, 0⟩ : OpV)], a110, c110, G110, [] ++ N⟩ : OpsS) (ops_next [] (⟨1, n.tmod 3, 0, [], [], none, 0, none, 0⟩ : OpV) (by omega) (by omega) hol hG110 hok ⟨nil_row, fun _ => rfl, (fun x hx => by simp at hx), Nat.zero_le _, nil_row, fun _ => rfl, Nat.zero_le _, (fun x hx => by simp at hx), ⟨by simp only; omega, by simp only; omega⟩, by simp only; omega⟩) (by simp only; omega) (fun s hs => by dsimp only; rw [List.length_append]; exact hs.tl [] 0)
                | exact Fin.loop_next (⟨i + 1, ops ++ [(⟨2, n.tmod 3, (n.tdiv 3).tmod 9 - 1, [], [], none, 0, none, 0⟩ : OpV)], a110, c110, G110, [] ++ N⟩ : OpsS) (ops_next [] (⟨2, n.tmod 3, (n.tdiv 3).tmod 9 - 1, [], [], none, 0, none, 0⟩ : OpV) (by omega) (by omega) hol hG110 hok ⟨nil_row, fun _ => rfl, (fun x hx => by simp at hx), Nat.zero_le _, nil_row, fun _ => rfl, Nat.zero_le _, (fun x hx => by simp at hx), ⟨by simp only; omega, by simp only; omega⟩, by simp only; omega⟩) (by simp only; omega) (fun s hs => by dsimp only; rw [List.length_append]; exact hs.tl [] 0)
                | exact Fin.loop_next (⟨i + 1, ops ++ [(⟨3, n.tmod 3, (n.tdiv 3).tmod 7 - 1, [], [], none, 0, none, 0⟩ : OpV)], a110, c110, G110, [] ++ N⟩ : OpsS) (ops_next [] (⟨3, n.tmod 3, (n.tdiv 3).tmod 7 - 1, [], [], none, 0, none, 0⟩ : OpV) (by omega) (by omega) hol hG110 hok ⟨nil_row, fun _ => rfl, (fun x hx => by simp at hx), Nat.zero_le _, nil_row, fun _ => rfl, Nat.zero_le _, (fun x hx => by simp at hx), ⟨by simp only; omega, by simp only; omega⟩, by simp only; omega⟩) (by simp only; omega) (fun s hs => by dsimp only; rw [List.length_append]; exact hs.tl [] 0)
              · try simp only [cnd] at hc5
                refine WX.region rfl ?_
                refine WXL.bin Met.none rfl rfl rfl ?_
                refine WXL.assign Met.none rfl ?_
                refine WXL.nil ?_
                refine Fin.then_normal ?_
                refine WX.cond rfl (fun hc6 => ?_) (fun hc6 => ?_)
                · try simp only [cnd] at hc6
                  refine WX.seq ?_
                  refine WX.region rfl ?_
                  refine WXL.fieldAddr (off' := 0) Met.none rfl Try.underlying48 rfl sz3 rfl ?_
                  refine WXL.st (vs := [_]) (c' := [_, _, _, _, _]) Met.none rfl rfl rfl sz3 ?_
                  refine WXL.nil ?_
                  refine Fin.then_normal ?_
                  refine WX.seq ?_
                  refine WX.region rfl ?_
                  refine WXL.move Met.none rfl ?_
                  refine WXL.qu Met.none rfl rfl ?_
                  refine WXL.rem Met.none rfl rfl (by omega) ?_
                  refine WXL.bin Met.none rfl rfl bvS ?_
                  refine WXL.fieldAddr (off' := 2) Met.none rfl Try.underlying48 rfl sz3 rfl ?_
                  refine WXL.st (vs := [_]) (c' := [_, _, _, _, _]) Met.none rfl rfl rfl sz3 ?_
                  refine WXL.nil ?_
                  refine Fin.then_normal ?_
                  refine WX.seq ?_
                  refine WX.region rfl ?_
                  refine WXL.move Met.none rfl ?_
                  refine WXL.rem Met.none rfl rfl (by omega) ?_
                  refine WXL.bin Met.none rfl rfl bvS ?_
                  refine WXL.move Met.none rfl ?_
                  refine WXL.qu Met.none rfl rfl ?_
                  refine WXL.rem Met.none rfl rfl (by omega) ?_
                  refine WXL.move Met.none rfl ?_
                  refine WXL.qu Met.none rfl rfl ?_
                  refine WXL.rem Met.none rfl rfl (by omega) ?_
                  refine WXL.buildSlice (c := [_, _, _]) Met.none rfl elem33 sz3 zero3 (by decide) (by decide) rfl rfl rfl rfl (fun b90 => ?_)
                  refine WXL.fieldAddr (off' := 4) Met.none rfl Try.underlying48 rfl sz33 rfl ?_
                  refine WXL.st (vs := [_]) (c' := [_, _, _, _, _]) Met.none rfl rfl rfl sz33 ?_
                  refine WXL.nil ?_
                  refine Fin.then_normal ?_
                  refine WX.region rfl ?_
                  refine WXL.fieldAddr (off' := 4) Met.none rfl Try.underlying48 rfl sz33 rfl ?_
                  first | refine WXL.ld Met.none rfl agg33 ?_ | refine WXL.ldS Met.none rfl agg33 ?_
                  refine WXL.move Met.none rfl ?_
                  refine WXL.qu Met.none rfl rfl ?_
                  refine WXL.rem Met.none rfl rfl (by omega) ?_
                  refine WXL.pre (m := m) Met.none rfl rfl elem33 sz3 (Rowy.one at_ rfl rfl) (by intro h; cases h) ?_
                  refine WXL.fieldAddr (off' := 4) Met.none rfl Try.underlying48 rfl sz33 rfl ?_
                  refine WXL.st (vs := [_]) (c' := [_, _, _, _, _]) Met.none rfl rfl rfl sz33 ?_
                  refine WXL.nil ?_
                  refine Fin.block_normal ?_
                  refine Fin.then_normal ?_
                  first
                  | refine WX.re (O' := (b6, ⟨0, false, [Value.int .i64 0, Value.int .i64 (n.tmod 3), Value.int .i64 0, .slice a7 xs.length c7, .slice none 0 0]⟩) :: (G ++ ((G7 ++ N) ++ O))) ?_
                  | refine WX.re (O' := (b6, ⟨0, false, [Value.int .i64 0, I (n.tmod 70 - 3), Value.int .i64 0, Row b105 0 1 1, .slice none 0 0]⟩) :: (G ++ (([(b105, ⟨1, false, [Value.int .u8 1]⟩)] ++ N) ++ O))) ?_
                  | refine WX.re (O' := (b6, ⟨0, false, [Value.int .i64 4, Value.int .i64 (n.tmod 3), I ((n.tdiv 4).tmod 40 - 4), .slice none 0 0, .slice (some ⟨b90, 0, none⟩) m m]⟩) :: (G ++ (([(b90, ⟨1, false, [I (n.tmod 5 - 1), Value.int .i64 ((n.tdiv 5).tmod 5), Value.int .i64 ((n.tdiv 25).tmod 5)]⟩)] ++ N) ++ O))) ?_
                  | skip
                  refine WX.region rfl ?_
                  refine WXL.move Met.none rfl ?_
                  refine WXL.ldN (vs := [_, _, _, _, _]) Met.none rfl agg48 sz48 ?_
                  refine WXL.buildSlice (c := [_, _, _, _, _]) Met.none rfl elem44 sz48 zero48 (by decide) (by decide) rfl rfl rfl rfl (fun b109 => ?_)
                  refine WXL.apG [_, _] Met.none rfl rfl isrow44 elem44 sz48 by48 zero48 (Src.lit (cs := [_, _, _, _, _])) (fun a110 c110 G110 hG110 => ?_)
                  refine WXL.assign Met.none rfl ?_
                  refine WXL.nil ?_
                  refine Fin.block_normal ?_
                  refine Fin.then_normal ?_
                  first
                  | refine WX.re (O' := G110 ++ ((G7 ++ N) ++ O)) ?_
                  | refine WX.re (O' := G110 ++ (([(b105, ⟨1, false, [Value.int .u8 1]⟩)] ++ N) ++ O)) ?_
                  | refine WX.re (O' := G110 ++ (([(b90, ⟨1, false, [I (n.tmod 5 - 1), Value.int .i64 ((n.tdiv 5).tmod 5), Value.int .i64 ((n.tdiv 25).tmod 5)]⟩)] ++ N) ++ O)) ?_
                  | refine WX.re (O' := G110 ++ (([] ++ N) ++ O)) ?_
                  refine WX.region rfl ?_
                  refine WXL.move Met.none rfl ?_
                  refine WXL.bin Met.none rfl rfl bvA ?_
                  refine WXL.assign Met.none rfl ?_
                  refine WXL.nil ?_
                  first
                  | exact Fin.loop_next (⟨i + 1, ops ++ [(⟨0, n.tmod 3, 0, xs, [], a7, c7, none, 0⟩ : OpV)], a110, c110, G110, G7 ++ N⟩ : OpsS) (ops_next G7 (⟨0, n.tmod 3, 0, xs, [], a7, c7, none, 0⟩ : OpV) (by omega) (by omega) hol hG110 hok ⟨hG7.rowy, fun q => (hG7.nil0 q).1, hxB, by simp only; omega, nil_row, fun _ => rfl, Nat.zero_le _, (fun x hx => by simp at hx), ⟨by simp only; omega, by simp only; omega⟩, by simp only; omega⟩) (by simp only; omega) (fun s hs => by dsimp only; rw [List.length_append]; exact hs.tl [] 0)
                  | exact Fin.loop_next (⟨i + 1, ops ++ [(⟨0, n.tmod 70 - 3, 0, [1], [], some ⟨b105, 0, none⟩, 1, none, 0⟩ : OpV)], a110, c110, G110, [(b105, ⟨1, false, [Value.int .u8 1]⟩)] ++ N⟩ : OpsS) (ops_next [(b105, ⟨1, false, [Value.int .u8 1]⟩)] (⟨0, n.tmod 70 - 3, 0, [1], [], some ⟨b105, 0, none⟩, 1, none, 0⟩ : OpV) (by omega) (by omega) hol hG110 hok ⟨h1row _ (Knows.at 0 rfl), (fun q => by cases q), (fun x hx => by rw [List.mem_singleton.1 hx]; decide), Nat.le_of_ble_eq_true rfl, nil_row, fun _ => rfl, Nat.zero_le _, (fun x hx => by simp at hx), ⟨by simp only; omega, by simp only; omega⟩, by simp only; omega⟩) (by simp only; omega) (fun s hs => by dsimp only; rw [List.length_append]; exact hs.tl [] 0)
                  | exact Fin.loop_next (⟨i + 1, ops ++ [(⟨4, n.tmod 3, (n.tdiv 4).tmod 40 - 4, [], ([n.tmod 5 - 1, (n.tdiv 5).tmod 5, (n.tdiv 25).tmod 5].take m), none, 0, some ⟨b90, 0, none⟩, m⟩ : OpV)], a110, c110, G110, [(b90, ⟨1, false, [I (n.tmod 5 - 1), Value.int .i64 ((n.tdiv 5).tmod 5), Value.int .i64 ((n.tdiv 25).tmod 5)]⟩)] ++ N⟩ : OpsS) (ops_next [(b90, ⟨1, false, [I (n.tmod 5 - 1), Value.int .i64 ((n.tdiv 5).tmod 5), Value.int .i64 ((n.tdiv 25).tmod 5)]⟩)] (⟨4, n.tmod 3, (n.tdiv 4).tmod 40 - 4, [], ([n.tmod 5 - 1, (n.tdiv 5).tmod 5, (n.tdiv 25).tmod 5].take m), none, 0, some ⟨b90, 0, none⟩, m⟩ : OpV) (by omega) (by omega) hol (by unfold encV; simp only; rw [hkl]; exact hG110) hok ⟨nil_row, fun _ => rfl, (fun x hx => by simp at hx), Nat.zero_le _, hkrow _ (Knows.at 0 rfl), (fun q => by cases q), hkl3, hk64, ⟨by simp only; omega, by simp only; omega⟩, by simp only; omega⟩) (by simp only; omega) (fun s hs => by dsimp only; rw [List.length_append]; exact hs.tl [] 0)
                  | exact Fin.loop_next (⟨i + 1, ops ++ [(⟨1, n.tmod 3, 0, [], [], none, 0, none, 0⟩ : OpV)], a110, c110, G110, [] ++ N⟩ : OpsS) (ops_next [] (⟨1, n.tmod 3, 0, [], [], none, 0, none, 0⟩ : OpV) (by omega) (by omega) hol hG110 hok ⟨nil_row, fun _ => rfl, (fun x hx => by simp at hx), Nat.zero_le _, nil_row, fun _ => rfl, Nat.zero_le _, (fun x hx => by simp at hx), ⟨by simp only; omega, by simp only; omega⟩, by simp only; omega⟩) (by simp only; omega) (fun s hs => by dsimp only; rw [List.length_append]; exact hs.tl [] 0)
                  | exact Fin.loop_next (⟨i + 1, ops ++ [(⟨2, n.tmod 3, (n.tdiv 3).tmod 9 - 1, [], [], none, 0, none, 0⟩ : OpV)], a110, c110, G110, [] ++ N⟩ : OpsS) (ops_next [] (⟨2, n.tmod 3, (n.tdiv 3).tmod 9 - 1, [], [], none, 0, none, 0⟩ : OpV) (by omega) (by omega) hol hG110 hok ⟨nil_row, fun _ => rfl, (fun x hx => by simp at hx), Nat.zero_le _, nil_row, fun _ => rfl, Nat.zero_le _, (fun x hx => by simp at hx), ⟨by simp only; omega, by simp only; omega⟩, by simp only; omega⟩) (by simp only; omega) (fun s hs => by dsimp only; rw [List.length_append]; exact hs.tl [] 0)
                  | exact Fin.loop_next (⟨i + 1, ops ++ [(⟨3, n.tmod 3, (n.tdiv 3).tmod 7 - 1, [], [], none, 0, none, 0⟩ : OpV)], a110, c110, G110, [] ++ N⟩ : OpsS) (ops_next [] (⟨3, n.tmod 3, (n.tdiv 3).tmod 7 - 1, [], [], none, 0, none, 0⟩ : OpV) (by omega) (by omega) hol hG110 hok ⟨nil_row, fun _ => rfl, (fun x hx => by simp at hx), Nat.zero_le _, nil_row, fun _ => rfl, Nat.zero_le _, (fun x hx => by simp at hx), ⟨by simp only; omega, by simp only; omega⟩, by simp only; omega⟩) (by simp only; omega) (fun s hs => by dsimp only; rw [List.length_append]; exact hs.tl [] 0)
                · try simp only [cnd] at hc6
                  refine WX.seq ?_
                  refine WX.region rfl ?_
                  refine WXL.bin Met.none rfl rfl rfl ?_
                  refine WXL.assign Met.none rfl ?_
                  refine WXL.nil ?_
                  refine Fin.then_normal ?_
                  refine WX.cond rfl (fun hc7 => ?_) (fun hc7 => ?_)
                  · try simp only [cnd] at hc7
                    refine WX.seq ?_
                    refine WX.region rfl ?_
                    refine WXL.move Met.none rfl ?_
                    refine WXL.rem Met.none rfl rfl (by omega) ?_
                    refine WXL.bin Met.none rfl rfl bvS ?_
                    refine WXL.fieldAddr (off' := 1) Met.none rfl Try.underlying48 rfl sz3 rfl ?_
                    refine WXL.st (vs := [_]) (c' := [_, _, _, _, _]) Met.none rfl rfl rfl sz3 ?_
                    refine WXL.nil ?_
                    refine Fin.then_normal ?_
                    refine WX.region rfl ?_
                    refine WXL.buildSlice (c := [_]) Met.none rfl elem27 sz5 zero5 (by decide) (by decide) rfl rfl rfl rfl (fun b105 => ?_)
                    refine WXL.fieldAddr (off' := 3) Met.none rfl Try.underlying48 rfl sz27 rfl ?_
                    refine WXL.st (vs := [_]) (c' := [_, _, _, _, _]) Met.none rfl rfl rfl sz27 ?_
                    refine WXL.nil ?_
                    refine Fin.block_normal ?_
                    refine Fin.then_normal ?_
                    first
                    | refine WX.re (O' := (b6, ⟨0, false, [Value.int .i64 0, Value.int .i64 (n.tmod 3), Value.int .i64 0, .slice a7 xs.length c7, .slice none 0 0]⟩) :: (G ++ ((G7 ++ N) ++ O))) ?_
                    | refine WX.re (O' := (b6, ⟨0, false, [Value.int .i64 0, I (n.tmod 70 - 3), Value.int .i64 0, Row b105 0 1 1, .slice none 0 0]⟩) :: (G ++ (([(b105, ⟨1, false, [Value.int .u8 1]⟩)] ++ N) ++ O))) ?_
                    | refine WX.re (O' := (b6, ⟨0, false, [Value.int .i64 4, Value.int .i64 (n.tmod 3), I ((n.tdiv 4).tmod 40 - 4), .slice none 0 0, .slice (some ⟨b90, 0, none⟩) m m]⟩) :: (G ++ (([(b90, ⟨1, false, [I (n.tmod 5 - 1), Value.int .i64 ((n.tdiv 5).tmod 5), Value.int .i64 ((n.tdiv 25).tmod 5)]⟩)] ++ N) ++ O))) ?_
                    | skip
                    refine WX.region rfl ?_
                    refine WXL.move Met.none rfl ?_
                    refine WXL.ldN (vs := [_, _, _, _, _]) Met.none rfl agg48 sz48 ?_
                    refine WXL.buildSlice (c := [_, _, _, _, _]) Met.none rfl elem44 sz48 zero48 (by decide) (by decide) rfl rfl rfl rfl (fun b109 => ?_)
                    refine WXL.apG [_, _] Met.none rfl rfl isrow44 elem44 sz48 by48 zero48 (Src.lit (cs := [_, _, _, _, _])) (fun a110 c110 G110 hG110 => ?_)
                    refine WXL.assign Met.none rfl ?_
                    refine WXL.nil ?_
                    refine Fin.block_normal ?_
                    refine Fin.then_normal ?_
                    first
                    | refine WX.re (O' := G110 ++ ((G7 ++ N) ++ O)) ?_
                    | refine WX.re (O' := G110 ++ (([(b105, ⟨1, false, [Value.int .u8 1]⟩)] ++ N) ++ O)) ?_
                    | refine WX.re (O' := G110 ++ (([(b90, ⟨1, false, [I (n.tmod 5 - 1), Value.int .i64 ((n.tdiv 5).tmod 5), Value.int .i64 ((n.tdiv 25).tmod 5)]⟩)] ++ N) ++ O)) ?_
                    | refine WX.re (O' := G110 ++ (([] ++ N) ++ O)) ?_
                    refine WX.region rfl ?_
                    refine WXL.move Met.none rfl ?_
                    refine WXL.bin Met.none rfl rfl bvA ?_
                    refine WXL.assign Met.none rfl ?_
                    refine WXL.nil ?_
                    first
                    | exact Fin.loop_next (⟨i + 1, ops ++ [(⟨0, n.tmod 3, 0, xs, [], a7, c7, none, 0⟩ : OpV)], a110, c110, G110, G7 ++ N⟩ : OpsS) (ops_next G7 (⟨0, n.tmod 3, 0, xs, [], a7, c7, none, 0⟩ : OpV) (by omega) (by omega) hol hG110 hok ⟨hG7.rowy, fun q => (hG7.nil0 q).1, hxB, by simp only; omega, nil_row, fun _ => rfl, Nat.zero_le _, (fun x hx => by simp at hx), ⟨by simp only; omega, by simp only; omega⟩, by simp only; omega⟩) (by simp only; omega) (fun s hs => by dsimp only; rw [List.length_append]; exact hs.tl [] 0)
                    | exact Fin.loop_next (⟨i + 1, ops ++ [(⟨0, n.tmod 70 - 3, 0, [1], [], some ⟨b105, 0, none⟩, 1, none, 0⟩ : OpV)], a110, c110, G110, [(b105, ⟨1, false, [Value.int .u8 1]⟩)] ++ N⟩ : OpsS) (ops_next [(b105, ⟨1, false, [Value.int .u8 1]⟩)] (⟨0, n.tmod 70 - 3, 0, [1], [], some ⟨b105, 0, none⟩, 1, none, 0⟩ : OpV) (by omega) (by omega) hol hG110 hok ⟨h1row _ (Knows.at 0 rfl), (fun q => by cases q), (fun x hx => by rw [List.mem_singleton.1 hx]; decide), Nat.le_of_ble_eq_true rfl, nil_row, fun _ => rfl, Nat.zero_le _, (fun x hx => by simp at hx), ⟨by simp only; omega, by simp only; omega⟩, by simp only; omega⟩) (by simp only; omega) (fun s hs => by dsimp only; rw [List.length_append]; exact hs.tl [] 0)
                    | exact Fin.loop_next (⟨i + 1, ops ++ [(⟨4, n.tmod 3, (n.tdiv 4).tmod 40 - 4, [], ([n.tmod 5 - 1, (n.tdiv 5).tmod 5, (n.tdiv 25).tmod 5].take m), none, 0, some ⟨b90, 0, none⟩, m⟩ : OpV)], a110, c110, G110, [(b90, ⟨1, false, [I (n.tmod 5 - 1), Value.int .i64 ((n.tdiv 5).tmod 5), Value.int .i64 ((n.tdiv 25).tmod 5)]⟩)] ++ N⟩ : OpsS) (ops_next [(b90, ⟨1, false, [I (n.tmod 5 - 1), Value.int .i64 ((n.tdiv 5).tmod 5), Value.int .i64 ((n.tdiv 25).tmod 5)]⟩)] (⟨4, n.tmod 3, (n.tdiv 4).tmod 40 - 4, [], ([n.tmod 5 - 1, (n.tdiv 5).tmod 5, (n.tdiv 25).tmod 5].take m), none, 0, some ⟨b90, 0, none⟩, m⟩ : OpV) (by omega) (by omega) hol (by unfold encV; simp only; rw [hkl]; exact hG110) hok ⟨nil_row, fun _ => rfl, (fun x hx => by simp at hx), Nat.zero_le _, hkrow _ (Knows.at 0 rfl), (fun q => by cases q), hkl3, hk64, ⟨by simp only; omega, by simp only; omega⟩, by simp only; omega⟩) (by simp only; omega) (fun s hs => by dsimp only; rw [List.length_append]; exact hs.tl [] 0)
                    | exact Fin.loop_next (⟨i + 1, ops ++ [(⟨1, n.tmod 3, 0, [], [], none, 0, none, 0⟩ : OpV)], a110, c110, G110, [] ++ N⟩ : OpsS) (ops_next [] (⟨1, n.tmod 3, 0, [], [], none, 0, none, 0⟩ : OpV) (by omega) (by omega) hol hG110 hok ⟨nil_row, fun _ => rfl, (fun x hx => by simp at hx), Nat.zero_le _, nil_row, fun _ => rfl, Nat.zero_le _, (fun x hx => by simp at hx), ⟨by simp only; omega, by simp only; omega⟩, by simp only; omega⟩) (by simp only; omega) (fun s hs => by dsimp only; rw [List.length_append]; exact hs.tl [] 0)
                    | exact Fin.loop_next (⟨i + 1, ops ++ [(⟨2, n.tmod 3, (n.tdiv 3).tmod 9 - 1, [], [], none, 0, none, 0⟩ : OpV)], a110, c110, G110, [] ++ N⟩ : OpsS) (ops_next [] (⟨2, n.tmod 3, (n.tdiv 3).tmod 9 - 1, [], [], none, 0, none, 0⟩ : OpV) (by omega) (by omega) hol hG110 hok ⟨nil_row, fun _ => rfl, (fun x hx => by simp at hx), Nat.zero_le _, nil_row, fun _ => rfl, Nat.zero_le _, (fun x hx => by simp at hx), ⟨by simp only; omega, by simp only; omega⟩, by simp only; omega⟩) (by simp only; omega) (fun s hs => by dsimp only; rw [List.length_append]; exact hs.tl [] 0)
                    | exact Fin.loop_next (⟨i + 1, ops ++ [(⟨3, n.tmod 3, (n.tdiv 3).tmod 7 - 1, [], [], none, 0, none, 0⟩ : OpV)], a110, c110, G110, [] ++ N⟩ : OpsS) (ops_next [] (⟨3, n.tmod 3, (n.tdiv 3).tmod 7 - 1, [], [], none, 0, none, 0⟩ : OpV) (by omega) (by omega) hol hG110 hok ⟨nil_row, fun _ => rfl, (fun x hx => by simp at hx), Nat.zero_le _, nil_row, fun _ => rfl, Nat.zero_le _, (fun x hx => by simp at hx), ⟨by simp only; omega, by simp only; omega⟩, by simp only; omega⟩) (by simp only; omega) (fun s hs => by dsimp only; rw [List.length_append]; exact hs.tl [] 0)
                  · try simp only [cnd] at hc7
                    refine WX.seq ?_
                    refine WX.region rfl ?_
                    refine WXL.assign Met.none rfl ?_
                    refine WXL.nil ?_
                    refine Fin.then_normal ?_
                    refine WX.block ?_
                    refine WX.re (O' := (b6, ⟨0, false, [Value.int .i64 0, Value.int .i64 (n.tmod 3), Value.int .i64 0, .slice none 0 0, .slice none 0 0]⟩) :: ([] ++ (G ++ (N ++ O)))) ?_
                    refine WX.loop (fun q : Nat × List Int × Option Addr × Nat × Objs => [(0, .slice a l.length c), (3, .slice a3 ops.length c3), (4, I (i : Int)), (5, I n), (6, Ptr b6 0), (7, I (q.1 : Int))]) (fun q => (b6, ⟨0, false, [Value.int .i64 0, Value.int .i64 (n.tmod 3), Value.int .i64 0, .slice q.2.2.1 q.2.1.length q.2.2.2.1, .slice none 0 0]⟩) :: (q.2.2.2.2 ++ (G ++ (N ++ O)))) (fun q => q.1 ≤ 5 ∧ q.2.1.length = q.1 ∧ Bytes q.2.1 ∧ Grow 1 q.2.2.1 q.2.1.length q.2.2.2.1 (q.2.1.map B8) q.2.2.2.2) (fun q => 5 - q.1) (0, [], none, 0, []) ⟨Nat.zero_le _, rfl, (fun x hx => by simp at hx), .nil⟩ (fun s hs => hs.tl [] 0) (fun q hq => ?_)
                    obtain ⟨k, xs, a7, c7, G7⟩ := q
                    obtain ⟨hk5, hxl, hxB, hG7⟩ := hq
                    simp only at hk5 hxl hxB hG7
                    dsimp only
                    refine WX.seq ?_
                    refine WX.seq ?_
                    refine WX.region rfl ?_
                    refine WXL.move Met.none rfl ?_
                    refine WXL.move Met.none rfl ?_
                    refine WXL.qu Met.none rfl rfl ?_
                    refine WXL.rem Met.none rfl rfl (by omega) ?_
                    refine WXL.bin Met.none rfl rfl rfl ?_
                    refine WXL.nil ?_
                    refine Fin.then_normal ?_
                    refine WX.cond rfl (fun hc8 => ?_) (fun hc8 => ?_)
                    · try simp only [cnd] at hc8
                      refine WX.skip ?_
                      refine Fin.then_normal ?_
                      refine WX.seq ?_
                      refine WX.block ?_
                      refine WX.draw rfl ?_
                      refine WXL.fieldAddr (off' := 3) Met.none rfl Try.underlying48 rfl sz27 rfl ?_
                      first | refine WXL.ld Met.none rfl agg27 ?_ | refine WXL.ldS Met.none rfl agg27 ?_
                      refine WXL.move Met.none rfl ?_
                      refine WXL.move Met.none rfl ?_
                      first | refine WXL.ix Met.none rfl rfl elem33 sz3 ?_ | refine WXL.ixS Met.none rfl rfl elem33 sz3 ?_
                      first | refine WXL.ld Met.none rfl agg3 ?_ | refine WXL.ldS Met.none rfl agg3 ?_
                      refine WXL.move Met.none rfl ?_
                      refine WXL.conv Met.none rfl Try.underlying3 Try.underlying77 cv_ ?_
                      refine WXL.shr Met.none rfl rfl (by omega) ?_
                      refine WXL.conv Met.none rfl Try.underlying3 Try.underlying5 cv_ ?_
                      refine WXL.buildSlice (c := [_]) Met.none rfl elem27 sz5 zero5 (by decide) (by decide) rfl rfl rfl rfl (fun b49 => ?_)
                      refine WXL.apG [_, _] Met.none rfl rfl isrow27 elem27 sz5 by5 zero5 (Src.lit (cs := [_])) (fun a50 c50 G50 hG50 => ?_)
                      refine WXL.fieldAddr (off' := 3) Met.none rfl Try.underlying48 rfl sz27 rfl ?_
                      refine WXL.st (vs := [_]) (c' := [_, _, _, _, _]) Met.none rfl rfl rfl sz27 ?_
                      refine WXL.nil ?_
                      refine Fin.block_normal ?_
                      refine Fin.then_normal ?_
                      obtain ⟨w, hw⟩ : ∃ w, w = IntKind.wrap .u8 ((nth l i).fdiv (2 ^ min ((k : Nat) : Int).toNat (IntKind.bits .i64))) := ⟨_, rfl⟩
                      have hwr : 0 ≤ w ∧ w < 256 := hw ▸ wrap8_lt _
                      rw [← hw] at hG50
                      refine WX.re (O' := (b6, ⟨0, false, [Value.int .i64 0, Value.int .i64 (n.tmod 3), Value.int .i64 0, .slice a50 (xs.length + 1) c50, .slice none 0 0]⟩) :: (G50 ++ (G ++ (N ++ O)))) ?_
                      refine WX.region rfl ?_
                      refine WXL.move Met.none rfl ?_
                      refine WXL.bin Met.none rfl rfl bvA ?_
                      refine WXL.assign Met.none rfl ?_
                      refine WXL.nil ?_
                      refine Fin.loop_next (k + 1, xs ++ [w], a50, c50, G50) ⟨by simp only; omega, by simp only [List.length_append, hxl]; rfl, ?_, ?_⟩ (by simp only; omega) (fun s hs => by dsimp only; rw [List.length_append]; exact hs.tl [] 0)
                      · intro x hx
                        rcases List.mem_append.1 hx with q | q
                        · exact hxB x q
                        · rw [List.mem_singleton.1 q]; exact hwr
                      · simp only [List.length_append, List.map_append]
                        exact hG50
                    · try simp only [cnd] at hc8
                      refine WX.exit ?_
                      refine Fin.then_exit ?_
                      refine Fin.loop_exit ?_
                      refine Fin.block_hit rfl ?_
                      refine Fin.block_normal ?_
                      refine Fin.then_normal ?_
                      first
                      | refine WX.re (O' := (b6, ⟨0, false, [Value.int .i64 0, Value.int .i64 (n.tmod 3), Value.int .i64 0, .slice a7 xs.length c7, .slice none 0 0]⟩) :: (G ++ ((G7 ++ N) ++ O))) ?_
                      | refine WX.re (O' := (b6, ⟨0, false, [Value.int .i64 0, I (n.tmod 70 - 3), Value.int .i64 0, Row b105 0 1 1, .slice none 0 0]⟩) :: (G ++ (([(b105, ⟨1, false, [Value.int .u8 1]⟩)] ++ N) ++ O))) ?_
                      | refine WX.re (O' := (b6, ⟨0, false, [Value.int .i64 4, Value.int .i64 (n.tmod 3), I ((n.tdiv 4).tmod 40 - 4), .slice none 0 0, .slice (some ⟨b90, 0, none⟩) m m]⟩) :: (G ++ (([(b90, ⟨1, false, [I (n.tmod 5 - 1), Value.int .i64 ((n.tdiv 5).tmod 5), Value.int .i64 ((n.tdiv 25).tmod 5)]⟩)] ++ N) ++ O))) ?_
                      | skip
                      refine WX.region rfl ?_
                      refine WXL.move Met.none rfl ?_
                      refine WXL.ldN (vs := [_, _, _, _, _]) Met.none rfl agg48 sz48 ?_
                      refine WXL.buildSlice (c := [_, _, _, _, _]) Met.none rfl elem44 sz48 zero48 (by decide) (by decide) rfl rfl rfl rfl (fun b109 => ?_)
                      refine WXL.apG [_, _] Met.none rfl rfl isrow44 elem44 sz48 by48 zero48 (Src.lit (cs := [_, _, _, _, _])) (fun a110 c110 G110 hG110 => ?_)
                      refine WXL.assign Met.none rfl ?_
                      refine WXL.nil ?_
                      refine Fin.block_normal ?_
                      refine Fin.then_normal ?_
                      first
                      | refine WX.re (O' := G110 ++ ((G7 ++ N) ++ O)) ?_
                      | refine WX.re (O' := G110 ++ (([(b105, ⟨1, false, [Value.int .u8 1]⟩)] ++ N) ++ O)) ?_
                      | refine WX.re (O' := G110 ++ (([(b90, ⟨1, false, [I (n.tmod 5 - 1), Value.int .i64 ((n.tdiv 5).tmod 5), Value.int .i64 ((n.tdiv 25).tmod 5)]⟩)] ++ N) ++ O)) ?_
                      | refine WX.re (O' := G110 ++ (([] ++ N) ++ O)) ?_
                      refine WX.region rfl ?_
                      refine WXL.move Met.none rfl ?_
                      refine WXL.bin Met.none rfl rfl bvA ?_
                      refine WXL.assign Met.none rfl ?_
                      refine WXL.nil ?_
                      first
                      | exact Fin.loop_next (⟨i + 1, ops ++ [(⟨0, n.tmod 3, 0, xs, [], a7, c7, none, 0⟩ : OpV)], a110, c110, G110, G7 ++ N⟩ : OpsS) (ops_next G7 (⟨0, n.tmod 3, 0, xs, [], a7, c7, none, 0⟩ : OpV) (by omega) (by omega) hol hG110 hok ⟨hG7.rowy, fun q => (hG7.nil0 q).1, hxB, by simp only; omega, nil_row, fun _ => rfl, Nat.zero_le _, (fun x hx => by simp at hx), ⟨by simp only; omega, by simp only; omega⟩, by simp only; omega⟩) (by simp only; omega) (fun s hs => by dsimp only; rw [List.length_append]; exact hs.tl [] 0)
                      | exact Fin.loop_next (⟨i + 1, ops ++ [(⟨0, n.tmod 70 - 3, 0, [1], [], some ⟨b105, 0, none⟩, 1, none, 0⟩ : OpV)], a110, c110, G110, [(b105, ⟨1, false, [Value.int .u8 1]⟩)] ++ N⟩ : OpsS) (ops_next [(b105, ⟨1, false, [Value.int .u8 1]⟩)] (⟨0, n.tmod 70 - 3, 0, [1], [], some ⟨b105, 0, none⟩, 1, none, 0⟩ : OpV) (by omega) (by omega) hol hG110 hok ⟨h1row _ (Knows.at 0 rfl), (fun q => by cases q), (fun x hx => by rw [List.mem_singleton.1 hx]; decide), Nat.le_of_ble_eq_true rfl, nil_row, fun _ => rfl, Nat.zero_le _, (fun x hx => by simp at hx), ⟨by simp only; omega, by simp only; omega⟩, by simp only; omega⟩) (by simp only; omega) (fun s hs => by dsimp only; rw [List.length_append]; exact hs.tl [] 0)
                      | exact Fin.loop_next (⟨i + 1, ops ++ [(⟨4, n.tmod 3, (n.tdiv 4).tmod 40 - 4, [], ([n.tmod 5 - 1, (n.tdiv 5).tmod 5, (n.tdiv 25).tmod 5].take m), none, 0, some ⟨b90, 0, none⟩, m⟩ : OpV)], a110, c110, G110, [(b90, ⟨1, false, [I (n.tmod 5 - 1), Value.int .i64 ((n.tdiv 5).tmod 5), Value.int .i64 ((n.tdiv 25).tmod 5)]⟩)] ++ N⟩ : OpsS) (ops_next [(b90, ⟨1, false, [I (n.tmod 5 - 1), Value.int .i64 ((n.tdiv 5).tmod 5), Value.int .i64 ((n.tdiv 25).tmod 5)]⟩)] (⟨4, n.tmod 3, (n.tdiv 4).tmod 40 - 4, [], ([n.tmod 5 - 1, (n.tdiv 5).tmod 5, (n.tdiv 25).tmod 5].take m), none, 0, some ⟨b90, 0, none⟩, m⟩ : OpV) (by omega) (by omega) hol (by unfold encV; simp only; rw [hkl]; exact hG110) hok ⟨nil_row, fun _ => rfl, (fun x hx => by simp at hx), Nat.zero_le _, hkrow _ (Knows.at 0 rfl), (fun q => by cases q), hkl3, hk64, ⟨by simp only; omega, by simp only; omega⟩, by simp only; omega⟩) (by simp only; omega) (fun s hs => by dsimp only; rw [List.length_append]; exact hs.tl [] 0)
                      | exact Fin.loop_next (⟨i + 1, ops ++ [(⟨1, n.tmod 3, 0, [], [], none, 0, none, 0⟩ : OpV)], a110, c110, G110, [] ++ N⟩ : OpsS) (ops_next [] (⟨1, n.tmod 3, 0, [], [], none, 0, none, 0⟩ : OpV) (by omega) (by omega) hol hG110 hok ⟨nil_row, fun _ => rfl, (fun x hx => by simp at hx), Nat.zero_le _, nil_row, fun _ => rfl, Nat.zero_le _, (fun x hx => by simp at hx), ⟨by simp only; omega, by simp only; omega⟩, by simp only; omega⟩) (by simp only; omega) (fun s hs => by dsimp only; rw [List.length_append]; exact hs.tl [] 0)
                      | exact Fin.loop_next (⟨i + 1, ops ++ [(⟨2, n.tmod 3, (n.tdiv 3).tmod 9 - 1, [], [], none, 0, none, 0⟩ : OpV)], a110, c110, G110, [] ++ N⟩ : OpsS) (ops_next [] (⟨2, n.tmod 3, (n.tdiv 3).tmod 9 - 1, [], [], none, 0, none, 0⟩ : OpV) (by omega) (by omega) hol hG110 hok ⟨nil_row, fun _ => rfl, (fun x hx => by simp at hx), Nat.zero_le _, nil_row, fun _ => rfl, Nat.zero_le _, (fun x hx => by simp at hx), ⟨by simp only; omega, by simp only; omega⟩, by simp only; omega⟩) (by simp only; omega) (fun s hs => by dsimp only; rw [List.length_append]; exact hs.tl [] 0)
                      | exact Fin.loop_next (⟨i + 1, ops ++ [(⟨3, n.tmod 3, (n.tdiv 3).tmod 7 - 1, [], [], none, 0, none, 0⟩ : OpV)], a110, c110, G110, [] ++ N⟩ : OpsS) (ops_next [] (⟨3, n.tmod 3, (n.tdiv 3).tmod 7 - 1, [], [], none, 0, none, 0⟩ : OpV) (by omega) (by omega) hol hG110 hok ⟨nil_row, fun _ => rfl, (fun x hx => by simp at hx), Nat.zero_le _, nil_row, fun _ => rfl, Nat.zero_le _, (fun x hx => by simp at hx), ⟨by simp only; omega, by simp only; omega⟩, by simp only; omega⟩) (by simp only; omega) (fun s hs => by dsimp only; rw [List.length_append]; exact hs.tl [] 0)
    · try simp only [cnd] at hc0
      refine WX.exit ?_
      refine Fin.then_exit ?_
      refine Fin.loop_exit ?_
      refine Fin.block_hit rfl ?_
      refine Fin.then_normal ?_
      refine WX.seq ?_
      refine WX.region rfl ?_
      refine WXL.move Met.none rfl ?_
      refine WXL.assign Met.none rfl ?_
      refine WXL.nil ?_
      refine Fin.then_normal ?_
      refine WX.ret ?_
      exact Fin.result (O' := G ++ (N ++ O)) (.inr rfl) rfl rfl drop_ ⟨a3, c3, ops, G, N, rfl, hG, rfl, by omega, hok⟩
  · try simp only [cnd] at hg12
    refine WXL.miss (j := 4) (d := 12) rfl rfl rfl ?_
    refine WXL.miss (j := 4) (d := 12) rfl rfl rfl ?_
    refine WXL.pick_f Met.none rfl rfl ?_
    refine WXL.nil ?_
    refine Fin.then_normal ?_
    refine WX.cond rfl (fun hc0 => nomatch hc0) (fun hc0 => ?_)
    refine WX.exit ?_
    refine Fin.then_exit ?_
    refine Fin.loop_exit ?_
    refine Fin.block_hit rfl ?_
    refine Fin.then_normal ?_
    refine WX.seq ?_
    refine WX.region rfl ?_
    refine WXL.move Met.none rfl ?_
    refine WXL.assign Met.none rfl ?_
    refine WXL.nil ?_
    refine Fin.then_normal ?_
    refine WX.ret ?_
    exact Fin.result (O' := G ++ (N ++ O)) (.inr rfl) rfl rfl drop_ ⟨a3, c3, ops, G, N, rfl, hG, rfl, by omega, hok⟩

end Go.Proofs.Ytahaplbdhgfobaa.Eng

set_option linter.unusedVariables false
set_option linter.unusedSimpArgs false
set_option maxRecDepth 8000
namespace Go.Proofs.Ytahaplbdhgfobaa.Eng

def DoD (D : Dk) (o : OpV) (e : Int) (D' : Dk) : Prop :=
  if o.kind = 0 then e = (appendD D o.file o.b).1 ∧ D' = (appendD D o.file o.b).2
  else if o.kind = 1 then e = (syncD D).1 ∧ D' = (syncD D).2
  else if o.kind = 2 then e = (truncD D o.file o.n).1 ∧ D' = (truncD D o.file o.n).2
  else if o.kind = 3 then e = 0 ∧ D' = armD D o.n
  else e = 0 ∧ D'.room = D.room ∧ D'.off = false ∧ D'.armed = false ∧ ∀ m, getF D'.fs m = ((mget m (crashC D o.keep o.n)).getD ⟨[], 0⟩).hard

def doR (M : Rd) (o : OpV) : Int × Rd :=
  if o.kind = 0 then appendR M o.file o.b
  else if o.kind = 1 then syncR M
  else if o.kind = 2 then truncR M o.file o.n
  else if o.kind = 3 then (0, armR M o.n)
  else (0, crashR M o.keep o.n)

theorem sim_do {R : Objs} {D D' : Dk} {M : Rd} {mx : MapX} {o : OpV} {e : Int} (h : Sim D M) (hD : DkI R D mx) (hd : DoD D o e D') : e = (doR M o).1 ∧ Sim D' (doR M o).2 := by
  unfold DoD at hd
  unfold doR
  by_cases h0 : o.kind = 0
  · rw [if_pos h0] at hd ⊢
    have := sim_append h hD o.file o.b
    rw [hd.1, hd.2]; exact ⟨this.1.symm, this.2⟩
  rw [if_neg h0] at hd ⊢
  by_cases h1 : o.kind = 1
  · rw [if_pos h1] at hd ⊢
    have := sim_sync h
    rw [hd.1, hd.2]; exact ⟨this.1.symm, this.2⟩
  rw [if_neg h1] at hd ⊢
  by_cases h2 : o.kind = 2
  · rw [if_pos h2] at hd ⊢
    have := sim_trunc h hD o.file o.n
    rw [hd.1, hd.2]; exact ⟨this.1.symm, this.2⟩
  rw [if_neg h2] at hd ⊢
  by_cases h3 : o.kind = 3
  · rw [if_pos h3] at hd ⊢
    rw [hd.1, hd.2]; exact ⟨rfl, sim_arm h o.n⟩
  rw [if_neg h3] at hd ⊢
  obtain ⟨e1, e2, e3, e4, e5⟩ := hd
  exact ⟨e1, sim_crash h hD e2 e3 e4 e5⟩

/-- More objects lie there. -/
theorem le_cons {R0 R : Objs} {q : Nat × Ent} (hi : ∀ Q : Nat × Ent → Bool, R0.countP Q ≤ R.countP Q) : ∀ Q : Nat × Ent → Bool, R0.countP Q ≤ (q :: R).countP Q := fun Q => by
  have := hi Q
  rw [List.countP_cons]
  omega
theorem le_sat {R0 R : Objs} (hi : ∀ Q : Nat × Ent → Bool, R0.countP Q ≤ R.countP Q) : ∀ g, Sat g R → Sat g R0 := fun g hg => hg.sub hi

theorem do_ok (R : Objs) {R0 : Objs} (d bm : Nat) (D : Dk) (mx : MapX) (o : OpV) (hD : DkI R0 D mx) (hi : ∀ Q : Nat × Ent → Bool, R0.countP Q ≤ R.countP Q) (hroom : D.room ≤ 1000000) (ho : OpK R o) :
    Spec Try.prog false 24 #[Ptr d 0, .agg (encV o).toArray] (dkO d bm D mx R) fun v O' => ∃ e D' mx' N, v = I e ∧ O' = dkO d bm D' mx' (N ++ R) ∧ DkI (N ++ R0) D' mx' ∧ DoD D o e D' := by
  refine Spec.enter (args := [_, _]) (m := 39) Try.func24 rfl rfl (by decide +kernel) fun h0 => ?_
  refine WX.seq ?_
  refine WX.region rfl ?_
  refine WXL.box (c := [_, _, _, _, _]) Met.none rfl rfl rfl (fun b3 => ?_)
  refine WXL.assign Met.none rfl ?_
  refine WXL.nil ?_
  refine Fin.then_normal ?_
  refine WX.seq ?_
  refine WX.seq ?_
  refine WX.re (O' := dkO d bm D mx ((b3, ⟨0, false, encV o⟩) :: R)) ?_ (fun _ hs => hs.tl [1, 2, 0] 3)
  refine WX.region rfl ?_
  refine WXL.fieldAddr (off' := 0) Met.none rfl Try.underlying48 rfl sz3 rfl ?_
  first | refine WXL.ld Met.none rfl agg3 ?_ | refine WXL.ldS Met.none rfl agg3 ?_
  refine WXL.nil ?_
  refine Fin.then_normal ?_
  refine WX.block ?_
  refine WX.seq ?_
  refine WX.region rfl ?_
  refine WXL.bin Met.none rfl rfl rfl ?_
  refine WXL.assign Met.none rfl ?_
  refine WXL.nil ?_
  refine Fin.then_normal ?_
  refine WX.cond rfl (fun hc0 => ?_) (fun hc0 => ?_)
  · try simp only [cnd] at hc0
    refine WX.seq ?_
    refine WX.region rfl ?_
    refine WXL.move Met.none rfl ?_
    refine WXL.fieldAddr (off' := 1) Met.none rfl Try.underlying48 rfl sz3 rfl ?_
    first | refine WXL.ld Met.none rfl agg3 ?_ | refine WXL.ldS Met.none rfl agg3 ?_
    refine WXL.fieldAddr (off' := 3) Met.none rfl Try.underlying48 rfl sz27 rfl ?_
    first | refine WXL.ld Met.none rfl agg27 ?_ | refine WXL.ldS Met.none rfl agg27 ?_
    refine WXL.cl (O1 := _) Met.none rfl (fnOk_of Try.func14 (by decide +kernel)) rfl (fun _ h => h) (diskAppend_ok _ d bm D mx o.file o.b o.a o.c hD (le_sat (le_cons hi)) (Src.cons (ho.row.src ho.nil)) ho.bytes) (fun v O' hp => ?_)
    obtain ⟨mx', N, rfl, rfl, hI⟩ := hp
    refine WXL.assign Met.none rfl ?_
    refine WXL.nil ?_
    refine Fin.then_normal ?_
    refine WX.ret ?_
    refine Fin.block_ret ?_
    refine Fin.then_ret ?_
    first
    | exact Fin.result (O' := dkO d bm (appendD D o.file o.b).2 mx' (N ++ R)) (.inr rfl) rfl rfl sub_ ⟨_, _, mx', N, rfl, rfl, hI, by unfold DoD; rw [if_pos hc0]; exact ⟨rfl, rfl⟩⟩
    | exact Fin.result (O' := dkO d bm (syncD D).2 mx' ([] ++ R)) (.inr rfl) rfl rfl sub_ ⟨_, _, mx', [], rfl, rfl, hI, by unfold DoD; rw [if_neg hc0, if_pos hc1]; exact ⟨rfl, rfl⟩⟩
    | exact Fin.result (O' := dkO d bm (truncD D o.file o.n).2 mx' ([] ++ R)) (.inr rfl) rfl rfl sub_ ⟨_, _, mx', [], rfl, rfl, hI, by unfold DoD; rw [if_neg hc0, if_neg hc1, if_pos hc2]; exact ⟨rfl, rfl⟩⟩
    | exact Fin.result (O' := dkO d bm D' mx' (N ++ R)) (.inr rfl) rfl rfl sub_ ⟨_, _, mx', N, rfl, rfl, hI, by unfold DoD; rw [if_neg hc0, if_neg hc1, if_neg hc2, if_neg hc3]; exact ⟨rfl, q1, q2, q3, q4⟩⟩
    | exact Fin.result (O' := dkO d bm (armD D o.n) mx ([] ++ R)) (.inr rfl) rfl rfl sub_ ⟨_, _, mx, [], rfl, rfl, hD.arm (by have := ho.nlt; omega), by unfold DoD; rw [if_neg hc0, if_neg hc1, if_neg hc2, if_pos hc3]; exact ⟨rfl, rfl⟩⟩
  · try simp only [cnd] at hc0
    refine WX.seq ?_
    refine WX.region rfl ?_
    refine WXL.bin Met.none rfl rfl rfl ?_
    refine WXL.assign Met.none rfl ?_
    refine WXL.nil ?_
    refine Fin.then_normal ?_
    refine WX.cond rfl (fun hc1 => ?_) (fun hc1 => ?_)
    · try simp only [cnd] at hc1
      refine WX.seq ?_
      refine WX.region rfl ?_
      refine WXL.move Met.none rfl ?_
      refine WXL.cl (O1 := _) Met.none rfl (fnOk_of Try.func15 (by decide +kernel)) rfl (fun _ h => h) (sync_ok _ d bm D mx hD) (fun v O' hp => ?_)
      obtain ⟨mx', rfl, rfl, hI⟩ := hp
      refine WXL.assign Met.none rfl ?_
      refine WXL.nil ?_
      refine Fin.then_normal ?_
      refine WX.ret ?_
      refine Fin.block_ret ?_
      refine Fin.then_ret ?_
      first
      | exact Fin.result (O' := dkO d bm (appendD D o.file o.b).2 mx' (N ++ R)) (.inr rfl) rfl rfl sub_ ⟨_, _, mx', N, rfl, rfl, hI, by unfold DoD; rw [if_pos hc0]; exact ⟨rfl, rfl⟩⟩
      | exact Fin.result (O' := dkO d bm (syncD D).2 mx' ([] ++ R)) (.inr rfl) rfl rfl sub_ ⟨_, _, mx', [], rfl, rfl, hI, by unfold DoD; rw [if_neg hc0, if_pos hc1]; exact ⟨rfl, rfl⟩⟩
      | exact Fin.result (O' := dkO d bm (truncD D o.file o.n).2 mx' ([] ++ R)) (.inr rfl) rfl rfl sub_ ⟨_, _, mx', [], rfl, rfl, hI, by unfold DoD; rw [if_neg hc0, if_neg hc1, if_pos hc2]; exact ⟨rfl, rfl⟩⟩
      | exact Fin.result (O' := dkO d bm D' mx' (N ++ R)) (.inr rfl) rfl rfl sub_ ⟨_, _, mx', N, rfl, rfl, hI, by unfold DoD; rw [if_neg hc0, if_neg hc1, if_neg hc2, if_neg hc3]; exact ⟨rfl, q1, q2, q3, q4⟩⟩
      | exact Fin.result (O' := dkO d bm (armD D o.n) mx ([] ++ R)) (.inr rfl) rfl rfl sub_ ⟨_, _, mx, [], rfl, rfl, hD.arm (by have := ho.nlt; omega), by unfold DoD; rw [if_neg hc0, if_neg hc1, if_neg hc2, if_pos hc3]; exact ⟨rfl, rfl⟩⟩
    · try simp only [cnd] at hc1
      refine WX.seq ?_
      refine WX.region rfl ?_
      refine WXL.bin Met.none rfl rfl rfl ?_
      refine WXL.assign Met.none rfl ?_
      refine WXL.nil ?_
      refine Fin.then_normal ?_
      refine WX.cond rfl (fun hc2 => ?_) (fun hc2 => ?_)
      · try simp only [cnd] at hc2
        refine WX.seq ?_
        refine WX.region rfl ?_
        refine WXL.move Met.none rfl ?_
        refine WXL.fieldAddr (off' := 1) Met.none rfl Try.underlying48 rfl sz3 rfl ?_
        first | refine WXL.ld Met.none rfl agg3 ?_ | refine WXL.ldS Met.none rfl agg3 ?_
        refine WXL.fieldAddr (off' := 2) Met.none rfl Try.underlying48 rfl sz3 rfl ?_
        first | refine WXL.ld Met.none rfl agg3 ?_ | refine WXL.ldS Met.none rfl agg3 ?_
        refine WXL.cl (O1 := _) Met.none rfl (fnOk_of Try.func20 (by decide +kernel)) rfl (fun _ h => h) (trunc_ok _ d bm D mx o.file o.n hD (le_sat (le_cons hi))) (fun v O' hp => ?_)
        obtain ⟨mx', rfl, rfl, hI⟩ := hp
        refine WXL.assign Met.none rfl ?_
        refine WXL.nil ?_
        refine Fin.then_normal ?_
        refine WX.ret ?_
        refine Fin.block_ret ?_
        refine Fin.then_ret ?_
        first
        | exact Fin.result (O' := dkO d bm (appendD D o.file o.b).2 mx' (N ++ R)) (.inr rfl) rfl rfl sub_ ⟨_, _, mx', N, rfl, rfl, hI, by unfold DoD; rw [if_pos hc0]; exact ⟨rfl, rfl⟩⟩
        | exact Fin.result (O' := dkO d bm (syncD D).2 mx' ([] ++ R)) (.inr rfl) rfl rfl sub_ ⟨_, _, mx', [], rfl, rfl, hI, by unfold DoD; rw [if_neg hc0, if_pos hc1]; exact ⟨rfl, rfl⟩⟩
        | exact Fin.result (O' := dkO d bm (truncD D o.file o.n).2 mx' ([] ++ R)) (.inr rfl) rfl rfl sub_ ⟨_, _, mx', [], rfl, rfl, hI, by unfold DoD; rw [if_neg hc0, if_neg hc1, if_pos hc2]; exact ⟨rfl, rfl⟩⟩
        | exact Fin.result (O' := dkO d bm D' mx' (N ++ R)) (.inr rfl) rfl rfl sub_ ⟨_, _, mx', N, rfl, rfl, hI, by unfold DoD; rw [if_neg hc0, if_neg hc1, if_neg hc2, if_neg hc3]; exact ⟨rfl, q1, q2, q3, q4⟩⟩
        | exact Fin.result (O' := dkO d bm (armD D o.n) mx ([] ++ R)) (.inr rfl) rfl rfl sub_ ⟨_, _, mx, [], rfl, rfl, hD.arm (by have := ho.nlt; omega), by unfold DoD; rw [if_neg hc0, if_neg hc1, if_neg hc2, if_pos hc3]; exact ⟨rfl, rfl⟩⟩
      · try simp only [cnd] at hc2
        refine WX.seq ?_
        refine WX.region rfl ?_
        refine WXL.bin Met.none rfl rfl rfl ?_
        refine WXL.assign Met.none rfl ?_
        refine WXL.nil ?_
        refine Fin.then_normal ?_
        refine WX.cond rfl (fun hc3 => ?_) (fun hc3 => ?_)
        · try simp only [cnd] at hc3
          refine WX.region rfl ?_
          refine WXL.move Met.none rfl ?_
          refine WXL.fieldAddr (off' := 2) Met.none rfl Try.underlying48 rfl sz3 rfl ?_
          first | refine WXL.ld Met.none rfl agg3 ?_ | refine WXL.ldS Met.none rfl agg3 ?_
          refine WXL.cl (O1 := _) Met.none rfl (fnOk_of Try.func28 (by decide +kernel)) rfl (fun _ h => h) (arm_ok _ d bm D mx o.n) (fun v O' hp => ?_)
          obtain rfl := hp
          refine WXL.nil ?_
          refine Fin.block_normal ?_
          refine Fin.then_normal ?_
          refine WX.seq ?_
          refine WX.region rfl ?_
          refine WXL.assign Met.none rfl ?_
          refine WXL.nil ?_
          refine Fin.then_normal ?_
          refine WX.ret ?_
          first
          | exact Fin.result (O' := dkO d bm (appendD D o.file o.b).2 mx' (N ++ R)) (.inr rfl) rfl rfl sub_ ⟨_, _, mx', N, rfl, rfl, hI, by unfold DoD; rw [if_pos hc0]; exact ⟨rfl, rfl⟩⟩
          | exact Fin.result (O' := dkO d bm (syncD D).2 mx' ([] ++ R)) (.inr rfl) rfl rfl sub_ ⟨_, _, mx', [], rfl, rfl, hI, by unfold DoD; rw [if_neg hc0, if_pos hc1]; exact ⟨rfl, rfl⟩⟩
          | exact Fin.result (O' := dkO d bm (truncD D o.file o.n).2 mx' ([] ++ R)) (.inr rfl) rfl rfl sub_ ⟨_, _, mx', [], rfl, rfl, hI, by unfold DoD; rw [if_neg hc0, if_neg hc1, if_pos hc2]; exact ⟨rfl, rfl⟩⟩
          | exact Fin.result (O' := dkO d bm D' mx' (N ++ R)) (.inr rfl) rfl rfl sub_ ⟨_, _, mx', N, rfl, rfl, hI, by unfold DoD; rw [if_neg hc0, if_neg hc1, if_neg hc2, if_neg hc3]; exact ⟨rfl, q1, q2, q3, q4⟩⟩
          | exact Fin.result (O' := dkO d bm (armD D o.n) mx ([] ++ R)) (.inr rfl) rfl rfl sub_ ⟨_, _, mx, [], rfl, rfl, hD.arm (by have := ho.nlt; omega), by unfold DoD; rw [if_neg hc0, if_neg hc1, if_neg hc2, if_pos hc3]; exact ⟨rfl, rfl⟩⟩
        · try simp only [cnd] at hc3
          refine WX.region rfl ?_
          refine WXL.move Met.none rfl ?_
          refine WXL.fieldAddr (off' := 4) Met.none rfl Try.underlying48 rfl sz33 rfl ?_
          first | refine WXL.ld Met.none rfl agg33 ?_ | refine WXL.ldS Met.none rfl agg33 ?_
          refine WXL.fieldAddr (off' := 2) Met.none rfl Try.underlying48 rfl sz3 rfl ?_
          first | refine WXL.ld Met.none rfl agg3 ?_ | refine WXL.ldS Met.none rfl agg3 ?_
          refine WXL.cl (O1 := _) Met.none rfl (fnOk_of Try.func16 (by decide +kernel)) rfl (fun _ h => h) (crash_ok _ d bm D mx o.keep o.ak o.ck o.n hD (le_cons hi) hroom ho.n64 ho.k64 (by have := ho.kshort; unfold Short; omega) (Src.cons (ho.krow.src ho.knil))) (fun v O' hp => ?_)
          obtain ⟨mx', N, D', rfl, hI, q1, q2, q3, q4⟩ := hp
          refine WXL.nil ?_
          refine Fin.block_normal ?_
          refine Fin.then_normal ?_
          refine WX.seq ?_
          refine WX.region rfl ?_
          refine WXL.assign Met.none rfl ?_
          refine WXL.nil ?_
          refine Fin.then_normal ?_
          refine WX.ret ?_
          first
          | exact Fin.result (O' := dkO d bm (appendD D o.file o.b).2 mx' (N ++ R)) (.inr rfl) rfl rfl sub_ ⟨_, _, mx', N, rfl, rfl, hI, by unfold DoD; rw [if_pos hc0]; exact ⟨rfl, rfl⟩⟩
          | exact Fin.result (O' := dkO d bm (syncD D).2 mx' ([] ++ R)) (.inr rfl) rfl rfl sub_ ⟨_, _, mx', [], rfl, rfl, hI, by unfold DoD; rw [if_neg hc0, if_pos hc1]; exact ⟨rfl, rfl⟩⟩
          | exact Fin.result (O' := dkO d bm (truncD D o.file o.n).2 mx' ([] ++ R)) (.inr rfl) rfl rfl sub_ ⟨_, _, mx', [], rfl, rfl, hI, by unfold DoD; rw [if_neg hc0, if_neg hc1, if_pos hc2]; exact ⟨rfl, rfl⟩⟩
          | exact Fin.result (O' := dkO d bm D' mx' (N ++ R)) (.inr rfl) rfl rfl sub_ ⟨_, _, mx', N, rfl, rfl, hI, by unfold DoD; rw [if_neg hc0, if_neg hc1, if_neg hc2, if_neg hc3]; exact ⟨rfl, q1, q2, q3, q4⟩⟩
          | exact Fin.result (O' := dkO d bm (armD D o.n) mx ([] ++ R)) (.inr rfl) rfl rfl sub_ ⟨_, _, mx, [], rfl, rfl, hD.arm (by have := ho.nlt; omega), by unfold DoD; rw [if_neg hc0, if_neg hc1, if_neg hc2, if_pos hc3]; exact ⟨rfl, rfl⟩⟩

theorem rdo_ok (R : Objs) {R0 : Objs} (r rb rf : Nat) (M : Rd) (vs : List Value) (o : OpV) (h : RdI R0 M vs) (hi : ∀ Q : Nat × Ent → Bool, R0.countP Q ≤ R.countP Q) (ho : OpK R o) :
    Spec Try.prog false 25 #[Ptr r 0, .agg (encV o).toArray] (rdO r rb rf M vs R) fun v O' => ∃ vs' N, v = I (doR M o).1 ∧ O' = rdO r rb rf (doR M o).2 vs' (N ++ R) ∧ RdI (N ++ R0) (doR M o).2 vs' := by
  refine Spec.enter (args := [_, _]) (m := 39) Try.func25 rfl rfl (by decide +kernel) fun h0 => ?_
  refine WX.seq ?_
  refine WX.region rfl ?_
  refine WXL.box (c := [_, _, _, _, _]) Met.none rfl rfl rfl (fun b3 => ?_)
  refine WXL.assign Met.none rfl ?_
  refine WXL.nil ?_
  refine Fin.then_normal ?_
  refine WX.seq ?_
  refine WX.seq ?_
  refine WX.re (O' := rdO r rb rf M vs ((b3, ⟨0, false, encV o⟩) :: R)) ?_ (fun _ hs => hs.tl [1, 2, 3, 0] 4)
  refine WX.region rfl ?_
  refine WXL.fieldAddr (off' := 0) Met.none rfl Try.underlying48 rfl sz3 rfl ?_
  first | refine WXL.ld Met.none rfl agg3 ?_ | refine WXL.ldS Met.none rfl agg3 ?_
  refine WXL.nil ?_
  refine Fin.then_normal ?_
  refine WX.block ?_
  refine WX.seq ?_
  refine WX.region rfl ?_
  refine WXL.bin Met.none rfl rfl rfl ?_
  refine WXL.assign Met.none rfl ?_
  refine WXL.nil ?_
  refine Fin.then_normal ?_
  refine WX.cond rfl (fun hc0 => ?_) (fun hc0 => ?_)
  · try simp only [cnd] at hc0
    refine WX.seq ?_
    refine WX.region rfl ?_
    refine WXL.move Met.none rfl ?_
    refine WXL.fieldAddr (off' := 1) Met.none rfl Try.underlying48 rfl sz3 rfl ?_
    first | refine WXL.ld Met.none rfl agg3 ?_ | refine WXL.ldS Met.none rfl agg3 ?_
    refine WXL.fieldAddr (off' := 3) Met.none rfl Try.underlying48 rfl sz27 rfl ?_
    first | refine WXL.ld Met.none rfl agg27 ?_ | refine WXL.ldS Met.none rfl agg27 ?_
    refine WXL.cl (O1 := _) Met.none rfl (fnOk_of Try.func42 (by decide +kernel)) rfl (fun _ h => h) (rappend_ok _ r rb rf M vs o.file o.b o.a o.c h (le_sat (le_cons hi)) (Src.cons (ho.row.src ho.nil)) ho.bytes (by have := ho.short; omega)) (fun v O' hp => ?_)
    obtain ⟨vs', N, rfl, rfl, hI⟩ := hp
    refine WXL.assign Met.none rfl ?_
    refine WXL.nil ?_
    refine Fin.then_normal ?_
    refine WX.ret ?_
    refine Fin.block_ret ?_
    refine Fin.then_ret ?_
    first
    | exact Fin.result (O' := rdO r rb rf (appendR M o.file o.b).2 vs' (N ++ R)) (.inr rfl) rfl rfl sub_ (by unfold doR; rw [if_pos hc0]; exact ⟨vs', N, rfl, rfl, hI⟩)
    | exact Fin.result (O' := rdO r rb rf (syncR M).2 vs ([] ++ R)) (.inr rfl) rfl rfl sub_ (by unfold doR; rw [if_neg hc0, if_pos hc1]; exact ⟨vs, [], rfl, rfl, hI⟩)
    | exact Fin.result (O' := rdO r rb rf (truncR M o.file o.n).2 vs' ([] ++ R)) (.inr rfl) rfl rfl sub_ (by unfold doR; rw [if_neg hc0, if_neg hc1, if_pos hc2]; exact ⟨vs', [], rfl, rfl, hI⟩)
    | exact Fin.result (O' := rdO r rb rf (crashR M o.keep o.n) vs' (N ++ R)) (.inr rfl) rfl rfl sub_ (by unfold doR; rw [if_neg hc0, if_neg hc1, if_neg hc2, if_neg hc3]; exact ⟨vs', N, rfl, rfl, hI⟩)
    | exact Fin.result (O' := rdO r rb rf (armR M o.n) vs ([] ++ R)) (.inr rfl) rfl rfl sub_ (by unfold doR; rw [if_neg hc0, if_neg hc1, if_neg hc2, if_pos hc3]; exact ⟨vs, [], rfl, rfl, h.arm (by have := ho.nlt; omega)⟩)
  · try simp only [cnd] at hc0
    refine WX.seq ?_
    refine WX.region rfl ?_
    refine WXL.bin Met.none rfl rfl rfl ?_
    refine WXL.assign Met.none rfl ?_
    refine WXL.nil ?_
    refine Fin.then_normal ?_
    refine WX.cond rfl (fun hc1 => ?_) (fun hc1 => ?_)
    · try simp only [cnd] at hc1
      refine WX.seq ?_
      refine WX.region rfl ?_
      refine WXL.move Met.none rfl ?_
      refine WXL.cl (O1 := _) Met.none rfl (fnOk_of Try.func43 (by decide +kernel)) rfl (fun _ h => h) (rsync_ok _ r rb rf M vs h) (fun v O' hp => ?_)
      obtain ⟨rfl, rfl, hI⟩ := hp
      refine WXL.assign Met.none rfl ?_
      refine WXL.nil ?_
      refine Fin.then_normal ?_
      refine WX.ret ?_
      refine Fin.block_ret ?_
      refine Fin.then_ret ?_
      first
      | exact Fin.result (O' := rdO r rb rf (appendR M o.file o.b).2 vs' (N ++ R)) (.inr rfl) rfl rfl sub_ (by unfold doR; rw [if_pos hc0]; exact ⟨vs', N, rfl, rfl, hI⟩)
      | exact Fin.result (O' := rdO r rb rf (syncR M).2 vs ([] ++ R)) (.inr rfl) rfl rfl sub_ (by unfold doR; rw [if_neg hc0, if_pos hc1]; exact ⟨vs, [], rfl, rfl, hI⟩)
      | exact Fin.result (O' := rdO r rb rf (truncR M o.file o.n).2 vs' ([] ++ R)) (.inr rfl) rfl rfl sub_ (by unfold doR; rw [if_neg hc0, if_neg hc1, if_pos hc2]; exact ⟨vs', [], rfl, rfl, hI⟩)
      | exact Fin.result (O' := rdO r rb rf (crashR M o.keep o.n) vs' (N ++ R)) (.inr rfl) rfl rfl sub_ (by unfold doR; rw [if_neg hc0, if_neg hc1, if_neg hc2, if_neg hc3]; exact ⟨vs', N, rfl, rfl, hI⟩)
      | exact Fin.result (O' := rdO r rb rf (armR M o.n) vs ([] ++ R)) (.inr rfl) rfl rfl sub_ (by unfold doR; rw [if_neg hc0, if_neg hc1, if_neg hc2, if_pos hc3]; exact ⟨vs, [], rfl, rfl, h.arm (by have := ho.nlt; omega)⟩)
    · try simp only [cnd] at hc1
      refine WX.seq ?_
      refine WX.region rfl ?_
      refine WXL.bin Met.none rfl rfl rfl ?_
      refine WXL.assign Met.none rfl ?_
      refine WXL.nil ?_
      refine Fin.then_normal ?_
      refine WX.cond rfl (fun hc2 => ?_) (fun hc2 => ?_)
      · try simp only [cnd] at hc2
        refine WX.seq ?_
        refine WX.region rfl ?_
        refine WXL.move Met.none rfl ?_
        refine WXL.fieldAddr (off' := 1) Met.none rfl Try.underlying48 rfl sz3 rfl ?_
        first | refine WXL.ld Met.none rfl agg3 ?_ | refine WXL.ldS Met.none rfl agg3 ?_
        refine WXL.fieldAddr (off' := 2) Met.none rfl Try.underlying48 rfl sz3 rfl ?_
        first | refine WXL.ld Met.none rfl agg3 ?_ | refine WXL.ldS Met.none rfl agg3 ?_
        refine WXL.cl (O1 := _) Met.none rfl (fnOk_of Try.func44 (by decide +kernel)) rfl (fun _ h => h) (rtrunc_ok _ r rb rf M vs o.file o.n h (le_sat (le_cons hi))) (fun v O' hp => ?_)
        obtain ⟨vs', rfl, rfl, hI⟩ := hp
        refine WXL.assign Met.none rfl ?_
        refine WXL.nil ?_
        refine Fin.then_normal ?_
        refine WX.ret ?_
        refine Fin.block_ret ?_
        refine Fin.then_ret ?_
        first
        | exact Fin.result (O' := rdO r rb rf (appendR M o.file o.b).2 vs' (N ++ R)) (.inr rfl) rfl rfl sub_ (by unfold doR; rw [if_pos hc0]; exact ⟨vs', N, rfl, rfl, hI⟩)
        | exact Fin.result (O' := rdO r rb rf (syncR M).2 vs ([] ++ R)) (.inr rfl) rfl rfl sub_ (by unfold doR; rw [if_neg hc0, if_pos hc1]; exact ⟨vs, [], rfl, rfl, hI⟩)
        | exact Fin.result (O' := rdO r rb rf (truncR M o.file o.n).2 vs' ([] ++ R)) (.inr rfl) rfl rfl sub_ (by unfold doR; rw [if_neg hc0, if_neg hc1, if_pos hc2]; exact ⟨vs', [], rfl, rfl, hI⟩)
        | exact Fin.result (O' := rdO r rb rf (crashR M o.keep o.n) vs' (N ++ R)) (.inr rfl) rfl rfl sub_ (by unfold doR; rw [if_neg hc0, if_neg hc1, if_neg hc2, if_neg hc3]; exact ⟨vs', N, rfl, rfl, hI⟩)
        | exact Fin.result (O' := rdO r rb rf (armR M o.n) vs ([] ++ R)) (.inr rfl) rfl rfl sub_ (by unfold doR; rw [if_neg hc0, if_neg hc1, if_neg hc2, if_pos hc3]; exact ⟨vs, [], rfl, rfl, h.arm (by have := ho.nlt; omega)⟩)
      · try simp only [cnd] at hc2
        refine WX.seq ?_
        refine WX.region rfl ?_
        refine WXL.bin Met.none rfl rfl rfl ?_
        refine WXL.assign Met.none rfl ?_
        refine WXL.nil ?_
        refine Fin.then_normal ?_
        refine WX.cond rfl (fun hc3 => ?_) (fun hc3 => ?_)
        · try simp only [cnd] at hc3
          refine WX.region rfl ?_
          refine WXL.move Met.none rfl ?_
          refine WXL.fieldAddr (off' := 2) Met.none rfl Try.underlying48 rfl sz3 rfl ?_
          first | refine WXL.ld Met.none rfl agg3 ?_ | refine WXL.ldS Met.none rfl agg3 ?_
          refine WXL.cl (O1 := _) Met.none rfl (fnOk_of Try.func45 (by decide +kernel)) rfl (fun _ h => h) (rarm_ok _ r rb rf M vs o.n) (fun v O' hp => ?_)
          obtain rfl := hp
          refine WXL.nil ?_
          refine Fin.block_normal ?_
          refine Fin.then_normal ?_
          refine WX.seq ?_
          refine WX.region rfl ?_
          refine WXL.assign Met.none rfl ?_
          refine WXL.nil ?_
          refine Fin.then_normal ?_
          refine WX.ret ?_
          first
          | exact Fin.result (O' := rdO r rb rf (appendR M o.file o.b).2 vs' (N ++ R)) (.inr rfl) rfl rfl sub_ (by unfold doR; rw [if_pos hc0]; exact ⟨vs', N, rfl, rfl, hI⟩)
          | exact Fin.result (O' := rdO r rb rf (syncR M).2 vs ([] ++ R)) (.inr rfl) rfl rfl sub_ (by unfold doR; rw [if_neg hc0, if_pos hc1]; exact ⟨vs, [], rfl, rfl, hI⟩)
          | exact Fin.result (O' := rdO r rb rf (truncR M o.file o.n).2 vs' ([] ++ R)) (.inr rfl) rfl rfl sub_ (by unfold doR; rw [if_neg hc0, if_neg hc1, if_pos hc2]; exact ⟨vs', [], rfl, rfl, hI⟩)
          | exact Fin.result (O' := rdO r rb rf (crashR M o.keep o.n) vs' (N ++ R)) (.inr rfl) rfl rfl sub_ (by unfold doR; rw [if_neg hc0, if_neg hc1, if_neg hc2, if_neg hc3]; exact ⟨vs', N, rfl, rfl, hI⟩)
          | exact Fin.result (O' := rdO r rb rf (armR M o.n) vs ([] ++ R)) (.inr rfl) rfl rfl sub_ (by unfold doR; rw [if_neg hc0, if_neg hc1, if_neg hc2, if_pos hc3]; exact ⟨vs, [], rfl, rfl, h.arm (by have := ho.nlt; omega)⟩)
        · try simp only [cnd] at hc3
          refine WX.region rfl ?_
          refine WXL.move Met.none rfl ?_
          refine WXL.fieldAddr (off' := 4) Met.none rfl Try.underlying48 rfl sz33 rfl ?_
          first | refine WXL.ld Met.none rfl agg33 ?_ | refine WXL.ldS Met.none rfl agg33 ?_
          refine WXL.fieldAddr (off' := 2) Met.none rfl Try.underlying48 rfl sz3 rfl ?_
          first | refine WXL.ld Met.none rfl agg3 ?_ | refine WXL.ldS Met.none rfl agg3 ?_
          refine WXL.cl (O1 := _) Met.none rfl (fnOk_of Try.func46 (by decide +kernel)) rfl (fun _ h => h) (rcrash_ok _ r rb rf M vs o.keep o.ak o.ck o.n h (le_cons hi) ho.n64 (by have := ho.kshort; unfold Short; omega) (Src.cons (ho.krow.src ho.knil))) (fun v O' hp => ?_)
          obtain ⟨vs', N, rfl, hI⟩ := hp
          refine WXL.nil ?_
          refine Fin.block_normal ?_
          refine Fin.then_normal ?_
          refine WX.seq ?_
          refine WX.region rfl ?_
          refine WXL.assign Met.none rfl ?_
          refine WXL.nil ?_
          refine Fin.then_normal ?_
          refine WX.ret ?_
          first
          | exact Fin.result (O' := rdO r rb rf (appendR M o.file o.b).2 vs' (N ++ R)) (.inr rfl) rfl rfl sub_ (by unfold doR; rw [if_pos hc0]; exact ⟨vs', N, rfl, rfl, hI⟩)
          | exact Fin.result (O' := rdO r rb rf (syncR M).2 vs ([] ++ R)) (.inr rfl) rfl rfl sub_ (by unfold doR; rw [if_neg hc0, if_pos hc1]; exact ⟨vs, [], rfl, rfl, hI⟩)
          | exact Fin.result (O' := rdO r rb rf (truncR M o.file o.n).2 vs' ([] ++ R)) (.inr rfl) rfl rfl sub_ (by unfold doR; rw [if_neg hc0, if_neg hc1, if_pos hc2]; exact ⟨vs', [], rfl, rfl, hI⟩)
          | exact Fin.result (O' := rdO r rb rf (crashR M o.keep o.n) vs' (N ++ R)) (.inr rfl) rfl rfl sub_ (by unfold doR; rw [if_neg hc0, if_neg hc1, if_neg hc2, if_neg hc3]; exact ⟨vs', N, rfl, rfl, hI⟩)
          | exact Fin.result (O' := rdO r rb rf (armR M o.n) vs ([] ++ R)) (.inr rfl) rfl rfl sub_ (by unfold doR; rw [if_neg hc0, if_neg hc1, if_neg hc2, if_pos hc3]; exact ⟨vs, [], rfl, rfl, h.arm (by have := ho.nlt; omega)⟩)

end Go.Proofs.Ytahaplbdhgfobaa.Eng

set_option linter.unusedVariables false
set_option linter.unusedSimpArgs false
set_option maxRecDepth 8000
namespace Go.Proofs.Ytahaplbdhgfobaa.Eng

theorem sim_new {room : Int} : Sim ⟨room, false, false, 0, []⟩ (newR room) :=
  ⟨rfl, rfl, .inr ⟨rfl, by show (-1 : Int) < 0; decide, by show (-2 : Int) ≤ -1; decide⟩, by unfold newR; simp, by unfold newR; simp, fun n hn => by
    unfold newR
    simp only
    rw [nth_replicate hn, nth_replicate hn]
    rfl⟩

/-- The state of both disks while operations are carried out. -/
structure TwoS where
  i : Nat
  D : Dk
  mx : MapX
  M : Rd
  vs : List Value
  N : Objs

structure TwoI (ops : List OpV) (room : Int) (N : Objs) (D : Dk) (mx : MapX) (M : Rd) (vs : List Value) : Prop where
  dk : DkI N D mx
  rd : RdI N M vs
  sim : Sim D M
  room : D.room = room
  ok : ∀ o ∈ ops, OpK N o

theorem DoD.room {D D' : Dk} {o : OpV} {e : Int} (h : DoD D o e D') : D'.room = D.room := by
  unfold DoD at h
  have hs : ∀ E : Dk, (stepD E).2.room = E.room := fun E => (stepD_fs E).2
  split at h
  · rw [h.2]; unfold appendD; split
    · rfl
    · split
      · rfl
      · split
        · rfl
        · rw [hs]; rfl
  split at h
  · rw [h.2]; unfold syncD; split
    · rfl
    · split <;> exact hs D
  split at h
  · rw [h.2]; unfold truncD; split
    · rfl
    · split
      · rfl
      · split <;> exact hs D
  split at h
  · rw [h.2]; unfold armD; split <;> rfl
  · exact h.2.1

/-- An operation on both. -/
theorem TwoI.both {ops : List OpV} {room : Int} {N X Y : Objs} {D D' : Dk} {mx mx' : MapX} {M : Rd} {vs vs' : List Value} {o : OpV} {e : Int} (h : TwoI ops room N D mx M vs) (hd : DoD D o e D') (h1 : DkI (X ++ N) D' mx') (h2 : RdI (Y ++ N) (doR M o).2 vs') :
    e = (doR M o).1 ∧ TwoI ops room (Y ++ (X ++ N)) D' mx' (doR M o).2 vs' := by
  obtain ⟨q1, q2⟩ := sim_do h.sim h.dk hd
  refine ⟨q1, h1.app, ?_, q2, by rw [hd.room]; exact h.room, fun o' ho' => (h.ok o' ho').app.app⟩
  refine ⟨h2.lenV, h2.lenB, h2.lenF, fun n hn => ?_, h2.room, h2.used, h2.plan, h2.firm⟩
  obtain ⟨a, c, e1, e2, e3⟩ := h2.file n hn
  exact ⟨a, c, e1, e2.mid, e3⟩

theorem made_ok (O : Objs) (room : Int) (l : List Int) (a : Option Addr) (c : Nat) (hr64 : In64 room) (hlen : Short l) (h64 : ∀ x ∈ l, In64 x) (hl : Src O 1 (.slice a l.length c) l.length (l.map I)) :
    Spec Try.prog false 27 #[I room, .slice a l.length c] O fun v O' => ∃ d bm D mx r rb rf M vs N, v = .tuple #[Ptr d 0, Ptr r 0] ∧ O' = dkO d bm D mx (rdO r rb rf M vs (N ++ O)) ∧ TwoI [] (12 + around room 40) N D mx M vs := by
  have hrr := around_range (n := room) (m := 40) (by decide)
  obtain ⟨k, hk⟩ : ∃ k, k = 12 + around room 40 := ⟨_, rfl⟩
  have hk2 : 12 ≤ k ∧ k ≤ 51 := by omega
  refine Spec.enter (args := [_, _]) (m := 50) Try.func27 rfl rfl (by decide +kernel) fun h0 => ?_
  refine WX.seq ?_
  refine WX.region rfl ?_
  refine WXL.assign Met.none rfl ?_
  refine WXL.assign Met.none rfl ?_
  refine WXL.nil ?_
  refine Fin.then_normal ?_
  refine WX.seq ?_
  refine WX.region rfl ?_
  refine WXL.move Met.none rfl ?_
  refine WXL.cl (O1 := _) Met.none rfl (fnOk_of Try.func12 (by decide +kernel)) rfl (fun _ h => h) (around_ok _ room 40 hr64 (by decide)) (fun v O' hp => ?_)
  obtain ⟨rfl, hO⟩ := hp
  subst O'
  refine WXL.bin Met.none rfl rfl bvA ?_
  refine WXL.assign Met.none rfl ?_
  refine WXL.nil ?_
  refine Fin.then_normal ?_
  refine WX.seq ?_
  refine WX.region rfl ?_
  refine WXL.move Met.none rfl ?_
  refine WXL.cl (O1 := _) Met.none rfl (fnOk_of Try.func11 (by decide +kernel)) rfl (fun _ h => h) (diskNew_good _ (12 + around room 40) (by omega)) (fun v O' hp => ?_)
  obtain ⟨d, bm, rfl, rfl⟩ := hp
  refine WXL.move Met.none rfl ?_
  refine WXL.extract Met.none rfl rfl ?_
  refine WXL.extract Met.none rfl rfl ?_
  refine WXL.assign Met.none rfl ?_
  refine WXL.assign Met.none rfl ?_
  refine WXL.nil ?_
  refine Fin.then_normal ?_
  refine WX.seq ?_
  refine WX.seq ?_
  refine WX.region rfl ?_
  refine WXL.move Met.none rfl ?_
  refine WXL.eqNilP Met.none rfl rfl Try.underlying23 ?_
  refine WXL.move Met.none rfl ?_
  refine WXL.split (d := 22) rfl (fun hg22 => ?_) (fun hg22 => ?_)
  · try simp only [cnd] at hg22
    exact (by simp at hg22) --end
  · try simp only [cnd] at hg22
    refine WXL.move (Met.some rfl rfl rfl) rfl ?_
    refine WXL.bin (Met.some rfl rfl rfl) rfl rfl rfl ?_
    refine WXL.pick_f Met.none rfl rfl ?_
    refine WXL.nil ?_
    refine Fin.then_normal ?_
    refine WX.cond rfl (fun hc0 => ?_) (fun hc0 => ?_)
    · try simp only [cnd] at hc0
      exact (by simp at hc0) --end
    · try simp only [cnd] at hc0
      refine WX.skip ?_
      refine Fin.then_normal ?_
      refine WX.seq ?_
      refine WX.region rfl ?_
      refine WXL.move Met.none rfl ?_
      refine WXL.cl (O1 := _) Met.none rfl (fnOk_of Try.func22 (by decide +kernel)) rfl (fun _ h => h) (rnew_ok _ (12 + around room 40)) (fun v O' hp => ?_)
      obtain ⟨r, rb, rf, rfl, rfl⟩ := hp
      refine WXL.assign Met.none rfl ?_
      refine WXL.nil ?_
      refine Fin.then_normal ?_
      refine WX.seq ?_
      refine WX.region rfl ?_
      refine WXL.move Met.none rfl ?_
      refine WXL.cl (O1 := _) Met.none rfl (fnOk_of Try.func23 (by decide +kernel)) rfl (fun _ h => h) (ops_ok _ l a c hlen h64 (Src.cons (Src.cons (Src.cons (Src.cons (Src.cons hl)))))) (fun v O' hp => ?_)
      obtain ⟨ao, co, ops, G, N0, rfl, hG, rfl, hol, hok⟩ := hp
      refine WXL.assign Met.none rfl ?_
      refine WXL.nil ?_
      refine Fin.then_normal ?_
      refine WX.seq ?_
      refine WX.seq ?_
      refine WX.region rfl ?_
      refine WXL.assign Met.none rfl ?_
      refine WXL.nil ?_
      refine Fin.then_normal ?_
      refine WX.block ?_
      rw [← hk]
      refine WX.re (O' := dkO d bm ⟨k, false, false, 0, []⟩ .new (rdO r rb rf (newR k) vs0 (G ++ (N0 ++ O)))) ?_
      refine WX.loop (fun q : TwoS => [(7, Ptr d 0), (9, Ptr r 0), (10, .slice ao ops.length co), (11, I (q.i : Int))]) (fun q => dkO d bm q.D q.mx (rdO r rb rf q.M q.vs (G ++ (q.N ++ O)))) (fun q => q.i ≤ ops.length ∧ TwoI ops k q.N q.D q.mx q.M q.vs) (fun q => ops.length - q.i) ⟨0, ⟨k, false, false, 0, []⟩, .new, newR k, vs0, N0⟩ ⟨Nat.zero_le _, by have h9 := (DkI.new (room := k) ⟨by omega, by omega⟩).app (N := N0); rw [List.append_nil] at h9; exact h9, by have h9 := (RdI.new (room := k) ⟨by omega, by omega⟩).app (N := N0); rw [List.append_nil] at h9; exact h9, sim_new, rfl, hok⟩ (fun s hs => hs.tl [] 0) (fun q hq => ?_)
      obtain ⟨i, D, mx, M, vs, N⟩ := q
      obtain ⟨hi, hT⟩ := hq
      simp only at hi hT
      dsimp only
      refine WX.seq ?_
      refine WX.seq ?_
      refine WX.region rfl ?_
      refine WXL.move Met.none rfl ?_
      refine WXL.move Met.none rfl ?_
      refine WXL.len Met.none rfl Try.underlying44 ?_
      refine WXL.bin Met.none rfl rfl rfl ?_
      refine WXL.nil ?_
      refine Fin.then_normal ?_
      refine WX.cond rfl (fun hc1 => ?_) (fun hc1 => ?_)
      · try simp only [cnd] at hc1
        refine WX.skip ?_
        refine Fin.then_normal ?_
        refine WX.seq ?_
        refine WX.block ?_
        refine WX.seq ?_
        have hio : i < ops.length := by omega
        have hoN := hT.ok _ (nth_mem hio)
        refine WX.region rfl ?_
        refine WXL.move Met.none rfl ?_
        refine WXL.move Met.none rfl ?_
        refine WXL.move Met.none rfl ?_
        first | refine WXL.ix Met.none rfl rfl elem44 sz48 ?_ | refine WXL.ixS Met.none rfl rfl elem44 sz48 ?_
        first | refine WXL.ldN Met.none rfl agg48 sz48 ?_ (hv := (cellsAt_flat encV_len _ _ hio)) | refine WXL.ldNS Met.none rfl agg48 sz48 ?_ (hv := (cellsAt_flat encV_len _ _ hio))
        refine WXL.cl (O1 := _) Met.none rfl (fnOk_of Try.func24 (by decide +kernel)) rfl (fun _ h => h) (do_ok _ d bm D mx (nth ops i) hT.dk (by intro Q; simp only [List.countP_append, List.countP_cons]; omega) (by rw [hT.room]; omega) (hoN.inc fun g hg => hg.sub (by intro Q; simp only [List.countP_append, List.countP_cons]; omega))) (fun v O' hp => ?_)
        obtain ⟨e, D', mx', N', rfl, rfl, hD', hdo⟩ := hp
        refine WXL.nil ?_
        refine Fin.then_normal ?_
        refine WX.re (O' := rdO r rb rf M vs (dkO d bm D' mx' (G ++ (N' ++ (N ++ O))))) ?_
        refine WX.region rfl ?_
        refine WXL.move Met.none rfl ?_
        refine WXL.move Met.none rfl ?_
        refine WXL.move Met.none rfl ?_
        first | refine WXL.ix Met.none rfl rfl elem44 sz48 ?_ | refine WXL.ixS Met.none rfl rfl elem44 sz48 ?_
        first | refine WXL.ldN Met.none rfl agg48 sz48 ?_ (hv := (cellsAt_flat encV_len _ _ hio)) | refine WXL.ldNS Met.none rfl agg48 sz48 ?_ (hv := (cellsAt_flat encV_len _ _ hio))
        refine WXL.cl (O1 := _) Met.none rfl (fnOk_of Try.func25 (by decide +kernel)) rfl (fun _ h => h) (rdo_ok _ r rb rf M vs (nth ops i) hT.rd (by intro Q; simp only [List.countP_append, List.countP_cons]; omega) (hoN.inc fun g hg => hg.sub (by intro Q; simp only [List.countP_append, List.countP_cons]; omega))) (fun v O' hp => ?_)
        obtain ⟨vs', N2, rfl, rfl, hM'⟩ := hp
        refine WXL.nil ?_
        refine Fin.block_normal ?_
        refine Fin.then_normal ?_
        refine WX.re (O' := dkO d bm D' mx' (rdO r rb rf (doR M (nth ops i)).2 vs' (G ++ ((N2 ++ (N' ++ N)) ++ O)))) ?_
        refine WX.region rfl ?_
        refine WXL.move Met.none rfl ?_
        refine WXL.bin Met.none rfl rfl bvA ?_
        refine WXL.assign Met.none rfl ?_
        refine WXL.nil ?_
        exact Fin.loop_next (⟨i + 1, D', mx', (doR M (nth ops i)).2, vs', N2 ++ (N' ++ N)⟩ : TwoS) ⟨by simp only; omega, (hT.both hdo hD' hM').2⟩ (by simp only; omega) (fun s hs => hs.tl [] 0)
      · try simp only [cnd] at hc1
        refine WX.exit ?_
        refine Fin.then_exit ?_
        refine Fin.loop_exit ?_
        refine Fin.block_hit rfl ?_
        refine Fin.then_normal ?_
        refine WX.seq ?_
        refine WX.region rfl ?_
        refine WXL.move Met.none rfl ?_
        refine WXL.move Met.none rfl ?_
        refine WXL.assign Met.none rfl ?_
        refine WXL.assign Met.none rfl ?_
        refine WXL.nil ?_
        refine Fin.then_normal ?_
        refine WX.ret ?_
        exact Fin.result (O' := dkO d bm D mx (rdO r rb rf M vs ((G ++ N) ++ O))) (.inr rfl) rfl rfl sub_ ⟨d, bm, D, mx, r, rb, rf, M, vs, G ++ N, rfl, rfl, by exact ⟨hT.dk.app, hT.rd.app, hT.sim, hT.room, fun o ho => by simp at ho⟩⟩

end Go.Proofs.Ytahaplbdhgfobaa.Eng

set_option linter.unusedVariables false
set_option linter.unusedSimpArgs false
set_option maxRecDepth 8000
namespace Go.Proofs.Ytahaplbdhgfobaa.Eng

theorem on_q (R : Objs) (d bm : Nat) (D : Dk) (mx : MapX) : Spec Try.prog true 29 #[Ptr d 0] (dkO d bm D mx R) fun v O' => v = .bool (!D.off) ∧ O' = dkO d bm D mx R := by
  refine Spec.enter (args := [_]) (m := 8) Try.func29 rfl rfl (by decide +kernel) fun h0 => ?_
  refine WX.seq ?_
  refine WX.region rfl ?_
  refine WXL.assign Met.none rfl ?_
  refine WXL.nil ?_
  refine Fin.then_normal ?_
  refine WX.seq ?_
  refine WX.region rfl ?_
  refine WXL.move Met.none rfl ?_
  refine WXL.nilCheck Met.none rfl ?_
  first | refine WXL.fieldAddr Met.none rfl Try.underlying68 rfl sz4 rfl ?_ | refine WXL.faS Met.none rfl Try.underlying68 rfl sz4 ?_
  first | refine WXL.ld Met.none rfl agg4 ?_ | refine WXL.ldS Met.none rfl agg4 ?_
  refine WXL.not Met.none rfl ?_
  refine WXL.assign Met.none rfl ?_
  refine WXL.nil ?_
  refine Fin.then_normal ?_
  refine WX.ret ?_
  exact Fin.result (.inr rfl) rfl rfl drop_ ⟨rfl, rfl⟩

theorem same_on (R : Objs) {R0 : Objs} (d bm : Nat) (D : Dk) (mx : MapX) (r rb rf : Nat) (M : Rd) (vs : List Value) (hD : DkI R0 D mx) (hM : RdI R0 M vs) (hS : Sim D M) (hi : ∀ Q : Nat × Ent → Bool, R0.countP Q ≤ R.countP Q) (hoff : D.off = false) :
    Spec Try.prog false 26 #[Ptr d 0, Ptr r 0] (dkO d bm D mx (rdO r rb rf M vs R)) fun v O' => v = .bool true ∧ ∃ N, O' = dkO d bm D mx (rdO r rb rf M vs (N ++ R)) := by
  have hu := hS.used hD
  have hmo : M.off = false := by rw [hS.off]; exact hoff
  have hff := fnos_files hS hD
  have hfl : (filesR M).length = (fnos D).length := by rw [hff, List.length_map]
  have hfc : castV (filesR M) = (fnos D).map I := by rw [hff, List.map_map]; rfl
  have hfs := fnos_len hD
  refine Spec.enter (args := [_, _]) (m := 74) Try.func26 rfl rfl (by decide +kernel) fun h0 => ?_
  refine WX.seq ?_
  refine WX.region rfl ?_
  refine WXL.assign Met.none rfl ?_
  refine WXL.nil ?_
  refine Fin.then_normal ?_
  refine WX.seq ?_
  refine WX.seq ?_
  refine WX.draw rfl ?_
  refine WXL.move Met.none rfl ?_
  refine WXL.cl (O1 := _) Met.none rfl (fnOk_of Try.func21 (by decide +kernel)) rfl (fun _ h => h) (used_ok _ _ d bm D mx hD) (fun v O' hp => ?_)
  obtain ⟨rfl, hO⟩ := hp
  subst O'
  refine WXL.move Met.none rfl ?_
  refine WXL.cl (O1 := rdO r rb rf M vs (dkO d bm D mx R)) Met.none rfl (fnOk_of Try.func47 (by decide +kernel)) rfl sub_ (rused_ok _ r rb rf M vs hM) (fun v O' hp => ?_)
  obtain ⟨rfl, hO⟩ := hp
  subst O'
  rw [hu]
  refine WXL.bin Met.none rfl rfl rfl ?_
  refine WXL.move Met.none rfl ?_
  refine WXL.split (d := 13) rfl (fun hg13 => ?_) (fun hg13 => ?_)
  · try simp only [cnd] at hg13
    exact (by simp at hg13) --end
  · try simp only [cnd] at hg13
    refine WXL.move (Met.some rfl rfl rfl) rfl ?_
    refine WXL.cl (O1 := dkO d bm D mx (rdO r rb rf M vs R)) (Met.some rfl rfl rfl) rfl (fnOk_of Try.func29 (by decide +kernel)) rfl sub_ (on_q _ d bm D mx) (fun v O' hp => ?_)
    obtain ⟨rfl, hO⟩ := hp
    subst O'
    refine WXL.move (Met.some rfl rfl rfl) rfl ?_
    refine WXL.nilCheck (Met.some rfl rfl rfl) rfl ?_
    first | refine WXL.fieldAddr (Met.some rfl rfl rfl) rfl Try.underlying58 rfl sz4 rfl ?_ | refine WXL.faS (Met.some rfl rfl rfl) rfl Try.underlying58 rfl sz4 ?_
    first | refine WXL.ld (Met.some rfl rfl rfl) rfl agg4 ?_ | refine WXL.ldS (Met.some rfl rfl rfl) rfl agg4 ?_
    refine WXL.eqB (Met.some rfl rfl rfl) rfl rfl Try.underlying4 ?_
    refine WXL.pick_f Met.none rfl rfl ?_
    refine WXL.move Met.none rfl ?_
    refine WXL.split (d := 22) rfl (fun hg22 => ?_) (fun hg22 => ?_)
    · try simp only [cnd] at hg22
      exact (by rw [hS.off] at hg22; revert hg22; cases D.off <;> simp) --end
    · try simp only [cnd] at hg22
      refine WXL.move (Met.some rfl rfl rfl) rfl ?_
      refine WXL.cl (O1 := _) (Met.some rfl rfl rfl) rfl (fnOk_of Try.func41 (by decide +kernel)) rfl (fun _ h => h) (files_ok _ _ d bm D mx hD) (fun v O' hp => ?_)
      obtain ⟨a1, c1, G1, rfl, hG1, rfl⟩ := hp
      refine WXL.move (Met.some rfl rfl rfl) rfl ?_
      refine WXL.cl (O1 := rdO r rb rf M vs (G1 ++ (dkO d bm D mx R))) (Met.some rfl rfl rfl) rfl (fnOk_of Try.func49 (by decide +kernel)) rfl sub_ (rfiles_ok _ r rb rf M vs hM) (fun v O' hp => ?_)
      obtain ⟨a2, c2, G2, rfl, hG2, rfl⟩ := hp
      rw [hfl, hfc] at hG2; rw [hfl]
      refine WXL.cl (O1 := _) (Met.some rfl rfl rfl) rfl (fnOk_of Try.func48 (by decide +kernel)) rfl (fun _ h => h) (sameI_ok _ (fnos D) (fnos D) a1 a2 c1 c2 (by unfold Short; omega) src_ src_) (fun v O' hp => ?_)
      obtain ⟨rfl, hO⟩ := hp
      subst O'
      refine WXL.not (Met.some rfl rfl rfl) rfl ?_
      refine WXL.pick_f Met.none rfl rfl ?_
      refine WXL.nil ?_
      refine Fin.then_normal ?_
      refine WX.cond rfl (fun hc0 => ?_) (fun hc0 => ?_)
      · try simp only [cnd] at hc0
        exact (by simp at hc0) --end
      · try simp only [cnd] at hc0
        refine WX.skip ?_
        refine Fin.then_normal ?_
        refine WX.seq ?_
        refine WX.seq ?_
        refine WX.region rfl ?_
        refine WXL.assign Met.none rfl ?_
        refine WXL.nil ?_
        refine Fin.then_normal ?_
        refine WX.block ?_
        obtain ⟨B, hB⟩ : ∃ B, B = G2 ++ (G1 ++ R) := ⟨_, rfl⟩
        have hiB : ∀ Q : Nat × Ent → Bool, R0.countP Q ≤ B.countP Q := fun Q => by
          have := hi Q
          rw [hB, List.countP_append, List.countP_append]
          omega
        refine WX.re (O' := dkO d bm D mx (rdO r rb rf M vs B)) ?_ (by rw [hB]; exact sub_)
        refine WX.loop (fun i : Nat => [(0, Ptr d 0), (1, Ptr r 0), (5, I (i : Int))]) (fun _ => dkO d bm D mx (rdO r rb rf M vs B)) (fun i => i ≤ 4) (fun i => 4 - i) 0 (by decide) (fun s hs => hs.tl [] 0) (fun i hi4 => ?_)
        refine WX.seq ?_
        refine WX.seq ?_
        refine WX.region rfl ?_
        refine WXL.move Met.none rfl ?_
        refine WXL.bin Met.none rfl rfl rfl ?_
        refine WXL.nil ?_
        refine Fin.then_normal ?_
        refine WX.cond rfl (fun hc1 => ?_) (fun hc1 => ?_)
        · try simp only [cnd] at hc1
          refine WX.skip ?_
          refine Fin.then_normal ?_
          refine WX.seq ?_
          refine WX.block ?_
          refine WX.seq ?_
          have hi64 : i < 64 := by omega
          have hb := hS.file i hi64
          obtain ⟨ax, cx, hvx, hrx0, hnx, hBx⟩ := hM.file i hi64
          have hrx : Rowy B 1 ax (nth M.B i).length ((nth M.B i).map B8) := hrx0.inc fun g hg => hg.sub hiB
          have hv : vs[i]? = some (.slice ax (nth M.B i).length cx) := by rw [← hvx]; exact nth_eq (by rw [hM.lenV]; exact hi64)
          have hxl := hM.len hi64
          have hxs : Short (nth M.B i) := by unfold Short; omega
          have hrd : readD D (i : Nat) = (nth M.B i, 0) := by unfold readD; rw [if_neg (by omega)]; rw [if_neg (by rw [hoff]; simp), hb]
          refine WX.region rfl ?_
          refine WXL.move Met.none rfl ?_
          refine WXL.move Met.none rfl ?_
          refine WXL.cl (O1 := _) Met.none rfl (fnOk_of Try.func17 (by decide +kernel)) rfl (fun _ h => h) (diskRead_ok _ d bm D mx (i : Nat) hD (fun g hg => hg.sub (by intro Q; have := hiB Q; simp only [List.countP_cons]; omega))) (fun v O' hp => ?_)
          obtain ⟨a3, c3, G3, rfl, hG3, rfl⟩ := hp
          rw [hrd] at hG3 ⊢
          dsimp only at hG3 ⊢
          refine WXL.move Met.none rfl ?_
          refine WXL.extract Met.none rfl rfl ?_
          refine WXL.extract Met.none rfl rfl ?_
          refine WXL.assign Met.none rfl ?_
          refine WXL.assign Met.none rfl ?_
          refine WXL.nil ?_
          refine Fin.then_normal ?_
          refine WX.seq ?_
          refine WX.seq ?_
          refine WX.re (O' := rdO r rb rf M vs (G3 ++ (dkO d bm D mx B))) ?_
          refine WX.region rfl ?_
          refine WXL.move Met.none rfl ?_
          refine WXL.nilCheck Met.none rfl ?_
          first | refine WXL.fieldAddr Met.none rfl Try.underlying58 rfl sz4 rfl ?_ | refine WXL.faS Met.none rfl Try.underlying58 rfl sz4 ?_
          first | refine WXL.ld Met.none rfl agg4 ?_ | refine WXL.ldS Met.none rfl agg4 ?_
          refine WXL.move Met.none rfl ?_
          refine WXL.split (d := 44) rfl (fun hg44 => ?_) (fun hg44 => ?_)
          · try simp only [cnd] at hg44
            exact absurd hg44 (by rw [hmo]; simp) --end
          · try simp only [cnd] at hg44
            refine WXL.miss (j := 4) (d := 44) rfl rfl rfl ?_
            refine WXL.miss (j := 4) (d := 44) rfl rfl rfl ?_
            refine WXL.miss (j := 4) (d := 44) rfl rfl rfl ?_
            refine WXL.missU (j := 7) (e := 47) rfl rfl ?_
            refine WXL.missU (j := 7) (e := 47) rfl rfl ?_
            refine WXL.missU (j := 7) (e := 47) rfl rfl ?_
            refine WXL.miss (j := 4) (d := 44) rfl rfl rfl ?_
            refine WXL.pick_f Met.none rfl rfl ?_
            refine WXL.nil ?_
            refine Fin.then_normal ?_
            refine WX.cond rfl (fun hc2 => nomatch hc2) (fun hc2 => ?_)
            refine WX.skip ?_
            refine Fin.then_normal ?_
            refine WX.seq ?_
            refine WX.region rfl ?_
            refine WXL.move Met.none rfl ?_
            refine WXL.nilCheck Met.none rfl ?_
            first | refine WXL.fieldAddr Met.none rfl Try.underlying58 rfl sz4 rfl ?_ | refine WXL.faS Met.none rfl Try.underlying58 rfl sz4 ?_
            first | refine WXL.ld Met.none rfl agg4 ?_ | refine WXL.ldS Met.none rfl agg4 ?_
            refine WXL.not Met.none rfl ?_
            refine WXL.move Met.none rfl ?_
            refine WXL.split (d := 58) rfl (fun hg58 => ?_) (fun hg58 => ?_)
            · try simp only [cnd] at hg58
              refine WXL.move (Met.some rfl rfl rfl) rfl ?_
              refine WXL.bin (Met.some rfl rfl rfl) rfl rfl rfl ?_
              refine WXL.move (Met.some rfl rfl rfl) rfl ?_
              refine WXL.split (d := 61) rfl (fun hg61 => ?_) (fun hg61 => ?_)
              · try simp only [cnd] at hg61
                exact (by simp at hg61) --end
              · try simp only [cnd] at hg61
                refine WXL.move (Met.some rfl rfl rfl) rfl ?_
                refine WXL.move (Met.some rfl rfl rfl) rfl ?_
                refine WXL.nilCheck (Met.some rfl rfl rfl) rfl ?_
                first | refine WXL.fieldAddr (Met.some rfl rfl rfl) rfl Try.underlying58 rfl sz22 rfl ?_ | refine WXL.faS (Met.some rfl rfl rfl) rfl Try.underlying58 rfl sz22 ?_
                first | refine WXL.ld (Met.some rfl rfl rfl) rfl agg22 ?_ | refine WXL.ldS (Met.some rfl rfl rfl) rfl agg22 ?_
                refine WXL.move (Met.some rfl rfl rfl) rfl ?_
                first | refine WXL.ix (Met.some rfl rfl rfl) rfl rfl elem22 sz27 ?_ | refine WXL.ixS (Met.some rfl rfl rfl) rfl rfl elem22 sz27 ?_
                first | refine WXL.ld (Met.some rfl rfl rfl) rfl agg27 ?_ (hv := hv) | refine WXL.ldS (Met.some rfl rfl rfl) rfl agg27 ?_ (hv := hv)
                refine WXL.cl (O1 := _) (Met.some rfl rfl rfl) rfl (fnOk_of Try.func18 (by decide +kernel)) rfl (fun _ h => h) (sameB_ok _ (nth M.B i) (nth M.B i) a3 ax c3 cx hxs src_ (Src.cons (Src.cons (Src.cons (Src.app (Src.cons (Src.cons (hrx.src hnx)))))))) (fun v O' hp => ?_)
                obtain ⟨rfl, hO⟩ := hp
                subst O'
                refine WXL.not (Met.some rfl rfl rfl) rfl ?_
                refine WXL.pick_f (Met.some rfl rfl rfl) rfl rfl ?_
                refine WXL.pick_t Met.none rfl rfl ?_
                refine WXL.nil ?_
                refine Fin.then_normal ?_
                refine WX.cond rfl (fun hc3 => ?_) (fun hc3 => ?_)
                · try simp only [cnd] at hc3
                  exact (by simp at hc3) --end
                · try simp only [cnd] at hc3
                  refine WX.skip ?_
                  refine Fin.block_normal ?_
                  refine Fin.then_normal ?_
                  refine WX.re (O' := dkO d bm D mx (rdO r rb rf M vs B)) ?_
                  refine WX.region rfl ?_
                  refine WXL.move Met.none rfl ?_
                  refine WXL.bin Met.none rfl rfl bvA ?_
                  refine WXL.assign Met.none rfl ?_
                  refine WXL.nil ?_
                  exact Fin.loop_next (i + 1) (by omega) (by omega) (fun s hs => hs.tl [] 0)
            · try simp only [cnd] at hg58
              exact absurd hmo (by simpa using hg58) --end
        · try simp only [cnd] at hc1
          refine WX.exit ?_
          refine Fin.then_exit ?_
          refine Fin.loop_exit ?_
          refine Fin.block_hit rfl ?_
          refine Fin.then_normal ?_
          refine WX.seq ?_
          refine WX.region rfl ?_
          refine WXL.assign Met.none rfl ?_
          refine WXL.nil ?_
          refine Fin.then_normal ?_
          refine WX.ret ?_
          exact Fin.result (O' := dkO d bm D mx (rdO r rb rf M vs ((G2 ++ G1) ++ R))) (.inr rfl) rfl rfl (fun g hg => by rw [hB] at hg; exact hg.sub (by intro Q; simp only [List.countP_append, List.countP_cons]; omega)) ⟨rfl, G2 ++ G1, rfl⟩

theorem same_off (R : Objs) {R0 : Objs} (d bm : Nat) (D : Dk) (mx : MapX) (r rb rf : Nat) (M : Rd) (vs : List Value) (hD : DkI R0 D mx) (hM : RdI R0 M vs) (hS : Sim D M) (hi : ∀ Q : Nat × Ent → Bool, R0.countP Q ≤ R.countP Q) (hoff : D.off = true) :
    Spec Try.prog false 26 #[Ptr d 0, Ptr r 0] (dkO d bm D mx (rdO r rb rf M vs R)) fun v O' => v = .bool true ∧ ∃ N, O' = dkO d bm D mx (rdO r rb rf M vs (N ++ R)) := by
  have hu := hS.used hD
  have hmo : M.off = true := by rw [hS.off]; exact hoff
  have hff := fnos_files hS hD
  have hfl : (filesR M).length = (fnos D).length := by rw [hff, List.length_map]
  have hfc : castV (filesR M) = (fnos D).map I := by rw [hff, List.map_map]; rfl
  have hfs := fnos_len hD
  refine Spec.enter (args := [_, _]) (m := 74) Try.func26 rfl rfl (by decide +kernel) fun h0 => ?_
  refine WX.seq ?_
  refine WX.region rfl ?_
  refine WXL.assign Met.none rfl ?_
  refine WXL.nil ?_
  refine Fin.then_normal ?_
  refine WX.seq ?_
  refine WX.seq ?_
  refine WX.draw rfl ?_
  refine WXL.move Met.none rfl ?_
  refine WXL.cl (O1 := _) Met.none rfl (fnOk_of Try.func21 (by decide +kernel)) rfl (fun _ h => h) (used_ok _ _ d bm D mx hD) (fun v O' hp => ?_)
  obtain ⟨rfl, hO⟩ := hp
  subst O'
  refine WXL.move Met.none rfl ?_
  refine WXL.cl (O1 := rdO r rb rf M vs (dkO d bm D mx R)) Met.none rfl (fnOk_of Try.func47 (by decide +kernel)) rfl sub_ (rused_ok _ r rb rf M vs hM) (fun v O' hp => ?_)
  obtain ⟨rfl, hO⟩ := hp
  subst O'
  rw [hu]
  refine WXL.bin Met.none rfl rfl rfl ?_
  refine WXL.move Met.none rfl ?_
  refine WXL.split (d := 13) rfl (fun hg13 => ?_) (fun hg13 => ?_)
  · try simp only [cnd] at hg13
    exact (by simp at hg13) --end
  · try simp only [cnd] at hg13
    refine WXL.move (Met.some rfl rfl rfl) rfl ?_
    refine WXL.cl (O1 := dkO d bm D mx (rdO r rb rf M vs R)) (Met.some rfl rfl rfl) rfl (fnOk_of Try.func29 (by decide +kernel)) rfl sub_ (on_q _ d bm D mx) (fun v O' hp => ?_)
    obtain ⟨rfl, hO⟩ := hp
    subst O'
    refine WXL.move (Met.some rfl rfl rfl) rfl ?_
    refine WXL.nilCheck (Met.some rfl rfl rfl) rfl ?_
    first | refine WXL.fieldAddr (Met.some rfl rfl rfl) rfl Try.underlying58 rfl sz4 rfl ?_ | refine WXL.faS (Met.some rfl rfl rfl) rfl Try.underlying58 rfl sz4 ?_
    first | refine WXL.ld (Met.some rfl rfl rfl) rfl agg4 ?_ | refine WXL.ldS (Met.some rfl rfl rfl) rfl agg4 ?_
    refine WXL.eqB (Met.some rfl rfl rfl) rfl rfl Try.underlying4 ?_
    refine WXL.pick_f Met.none rfl rfl ?_
    refine WXL.move Met.none rfl ?_
    refine WXL.split (d := 22) rfl (fun hg22 => ?_) (fun hg22 => ?_)
    · try simp only [cnd] at hg22
      exact (by rw [hS.off] at hg22; revert hg22; cases D.off <;> simp) --end
    · try simp only [cnd] at hg22
      refine WXL.move (Met.some rfl rfl rfl) rfl ?_
      refine WXL.cl (O1 := _) (Met.some rfl rfl rfl) rfl (fnOk_of Try.func41 (by decide +kernel)) rfl (fun _ h => h) (files_ok _ _ d bm D mx hD) (fun v O' hp => ?_)
      obtain ⟨a1, c1, G1, rfl, hG1, rfl⟩ := hp
      refine WXL.move (Met.some rfl rfl rfl) rfl ?_
      refine WXL.cl (O1 := rdO r rb rf M vs (G1 ++ (dkO d bm D mx R))) (Met.some rfl rfl rfl) rfl (fnOk_of Try.func49 (by decide +kernel)) rfl sub_ (rfiles_ok _ r rb rf M vs hM) (fun v O' hp => ?_)
      obtain ⟨a2, c2, G2, rfl, hG2, rfl⟩ := hp
      rw [hfl, hfc] at hG2; rw [hfl]
      refine WXL.cl (O1 := _) (Met.some rfl rfl rfl) rfl (fnOk_of Try.func48 (by decide +kernel)) rfl (fun _ h => h) (sameI_ok _ (fnos D) (fnos D) a1 a2 c1 c2 (by unfold Short; omega) src_ src_) (fun v O' hp => ?_)
      obtain ⟨rfl, hO⟩ := hp
      subst O'
      refine WXL.not (Met.some rfl rfl rfl) rfl ?_
      refine WXL.pick_f Met.none rfl rfl ?_
      refine WXL.nil ?_
      refine Fin.then_normal ?_
      refine WX.cond rfl (fun hc0 => ?_) (fun hc0 => ?_)
      · try simp only [cnd] at hc0
        exact (by simp at hc0) --end
      · try simp only [cnd] at hc0
        refine WX.skip ?_
        refine Fin.then_normal ?_
        refine WX.seq ?_
        refine WX.seq ?_
        refine WX.region rfl ?_
        refine WXL.assign Met.none rfl ?_
        refine WXL.nil ?_
        refine Fin.then_normal ?_
        refine WX.block ?_
        obtain ⟨B, hB⟩ : ∃ B, B = G2 ++ (G1 ++ R) := ⟨_, rfl⟩
        have hiB : ∀ Q : Nat × Ent → Bool, R0.countP Q ≤ B.countP Q := fun Q => by
          have := hi Q
          rw [hB, List.countP_append, List.countP_append]
          omega
        refine WX.re (O' := dkO d bm D mx (rdO r rb rf M vs B)) ?_ (by rw [hB]; exact sub_)
        refine WX.loop (fun i : Nat => [(0, Ptr d 0), (1, Ptr r 0), (5, I (i : Int))]) (fun _ => dkO d bm D mx (rdO r rb rf M vs B)) (fun i => i ≤ 4) (fun i => 4 - i) 0 (by decide) (fun s hs => hs.tl [] 0) (fun i hi4 => ?_)
        refine WX.seq ?_
        refine WX.seq ?_
        refine WX.region rfl ?_
        refine WXL.move Met.none rfl ?_
        refine WXL.bin Met.none rfl rfl rfl ?_
        refine WXL.nil ?_
        refine Fin.then_normal ?_
        refine WX.cond rfl (fun hc1 => ?_) (fun hc1 => ?_)
        · try simp only [cnd] at hc1
          refine WX.skip ?_
          refine Fin.then_normal ?_
          refine WX.seq ?_
          refine WX.block ?_
          refine WX.seq ?_
          have hi64 : i < 64 := by omega
          have hb := hS.file i hi64
          obtain ⟨ax, cx, hvx, hrx0, hnx, hBx⟩ := hM.file i hi64
          have hrx : Rowy B 1 ax (nth M.B i).length ((nth M.B i).map B8) := hrx0.inc fun g hg => hg.sub hiB
          have hv : vs[i]? = some (.slice ax (nth M.B i).length cx) := by rw [← hvx]; exact nth_eq (by rw [hM.lenV]; exact hi64)
          have hxl := hM.len hi64
          have hxs : Short (nth M.B i) := by unfold Short; omega
          have hrd : readD D (i : Nat) = ([], 23) := by unfold readD; rw [if_neg (by omega)]; rw [if_pos hoff]
          refine WX.region rfl ?_
          refine WXL.move Met.none rfl ?_
          refine WXL.move Met.none rfl ?_
          refine WXL.cl (O1 := _) Met.none rfl (fnOk_of Try.func17 (by decide +kernel)) rfl (fun _ h => h) (diskRead_ok _ d bm D mx (i : Nat) hD (fun g hg => hg.sub (by intro Q; have := hiB Q; simp only [List.countP_cons]; omega))) (fun v O' hp => ?_)
          obtain ⟨a3, c3, G3, rfl, hG3, rfl⟩ := hp
          rw [hrd] at hG3 ⊢
          dsimp only at hG3 ⊢
          refine WXL.move Met.none rfl ?_
          refine WXL.extract Met.none rfl rfl ?_
          refine WXL.extract Met.none rfl rfl ?_
          refine WXL.assign Met.none rfl ?_
          refine WXL.assign Met.none rfl ?_
          refine WXL.nil ?_
          refine Fin.then_normal ?_
          refine WX.seq ?_
          refine WX.seq ?_
          refine WX.re (O' := rdO r rb rf M vs (G3 ++ (dkO d bm D mx B))) ?_
          refine WX.region rfl ?_
          refine WXL.move Met.none rfl ?_
          refine WXL.nilCheck Met.none rfl ?_
          first | refine WXL.fieldAddr Met.none rfl Try.underlying58 rfl sz4 rfl ?_ | refine WXL.faS Met.none rfl Try.underlying58 rfl sz4 ?_
          first | refine WXL.ld Met.none rfl agg4 ?_ | refine WXL.ldS Met.none rfl agg4 ?_
          refine WXL.move Met.none rfl ?_
          refine WXL.split (d := 44) rfl (fun hg44 => ?_) (fun hg44 => ?_)
          · try simp only [cnd] at hg44
            refine WXL.move (Met.some rfl rfl rfl) rfl ?_
            refine WXL.bin (Met.some rfl rfl rfl) rfl rfl rfl ?_
            refine WXL.move (Met.some rfl rfl rfl) rfl ?_
            refine WXL.split (d := 47) rfl (fun hg47 => ?_) (fun hg47 => ?_)
            · try simp only [cnd] at hg47
              exact (by simp at hg47) --end
            · try simp only [cnd] at hg47
              refine WXL.move (Met.some rfl rfl rfl) rfl ?_
              refine WXL.len (Met.some rfl rfl rfl) rfl Try.underlying27 ?_
              refine WXL.bin (Met.some rfl rfl rfl) rfl rfl rfl ?_
              refine WXL.pick_f (Met.some rfl rfl rfl) rfl rfl ?_
              refine WXL.pick_t Met.none rfl rfl ?_
              refine WXL.nil ?_
              refine Fin.then_normal ?_
              refine WX.cond rfl (fun hc2 => ?_) (fun hc2 => ?_)
              · try simp only [cnd] at hc2
                exact (by simp at hc2) --end
              · try simp only [cnd] at hc2
                refine WX.skip ?_
                refine Fin.then_normal ?_
                refine WX.seq ?_
                refine WX.region rfl ?_
                refine WXL.move Met.none rfl ?_
                refine WXL.nilCheck Met.none rfl ?_
                first | refine WXL.fieldAddr Met.none rfl Try.underlying58 rfl sz4 rfl ?_ | refine WXL.faS Met.none rfl Try.underlying58 rfl sz4 ?_
                first | refine WXL.ld Met.none rfl agg4 ?_ | refine WXL.ldS Met.none rfl agg4 ?_
                refine WXL.not Met.none rfl ?_
                refine WXL.move Met.none rfl ?_
                refine WXL.split (d := 58) rfl (fun hg58 => ?_) (fun hg58 => ?_)
                · try simp only [cnd] at hg58
                  exact absurd hmo (by simpa using hg58) --end
                · try simp only [cnd] at hg58
                  refine WXL.miss (j := 5) (d := 58) rfl rfl rfl ?_
                  refine WXL.miss (j := 5) (d := 58) rfl rfl rfl ?_
                  refine WXL.miss (j := 5) (d := 58) rfl rfl rfl ?_
                  refine WXL.missU (j := 8) (e := 61) rfl rfl ?_
                  refine WXL.missU (j := 8) (e := 61) rfl rfl ?_
                  refine WXL.missU (j := 8) (e := 61) rfl rfl ?_
                  refine WXL.missU (j := 8) (e := 61) rfl rfl ?_
                  refine WXL.missU (j := 8) (e := 61) rfl rfl ?_
                  refine WXL.missU (j := 8) (e := 61) rfl rfl ?_
                  refine WXL.missU (j := 8) (e := 61) rfl rfl ?_
                  refine WXL.missU (j := 8) (e := 61) rfl rfl ?_
                  refine WXL.missU (j := 8) (e := 61) rfl rfl ?_
                  refine WXL.missU (j := 8) (e := 61) rfl rfl ?_
                  refine WXL.miss (j := 5) (d := 58) rfl rfl rfl ?_
                  refine WXL.pick_f Met.none rfl rfl ?_
                  refine WXL.nil ?_
                  refine Fin.then_normal ?_
                  refine WX.cond rfl (fun hc3 => nomatch hc3) (fun hc3 => ?_)
                  refine WX.skip ?_
                  refine Fin.block_normal ?_
                  refine Fin.then_normal ?_
                  refine WX.re (O' := dkO d bm D mx (rdO r rb rf M vs B)) ?_
                  refine WX.region rfl ?_
                  refine WXL.move Met.none rfl ?_
                  refine WXL.bin Met.none rfl rfl bvA ?_
                  refine WXL.assign Met.none rfl ?_
                  refine WXL.nil ?_
                  exact Fin.loop_next (i + 1) (by omega) (by omega) (fun s hs => hs.tl [] 0)
          · try simp only [cnd] at hg44
            exact absurd hmo (by simpa using hg44) --end
        · try simp only [cnd] at hc1
          refine WX.exit ?_
          refine Fin.then_exit ?_
          refine Fin.loop_exit ?_
          refine Fin.block_hit rfl ?_
          refine Fin.then_normal ?_
          refine WX.seq ?_
          refine WX.region rfl ?_
          refine WXL.assign Met.none rfl ?_
          refine WXL.nil ?_
          refine Fin.then_normal ?_
          refine WX.ret ?_
          exact Fin.result (O' := dkO d bm D mx (rdO r rb rf M vs ((G2 ++ G1) ++ R))) (.inr rfl) rfl rfl (fun g hg => by rw [hB] at hg; exact hg.sub (by intro Q; simp only [List.countP_append, List.countP_cons]; omega)) ⟨rfl, G2 ++ G1, rfl⟩

theorem same_ok (R : Objs) {R0 : Objs} (d bm : Nat) (D : Dk) (mx : MapX) (r rb rf : Nat) (M : Rd) (vs : List Value) (hD : DkI R0 D mx) (hM : RdI R0 M vs) (hS : Sim D M) (hi : ∀ Q : Nat × Ent → Bool, R0.countP Q ≤ R.countP Q) :
    Spec Try.prog false 26 #[Ptr d 0, Ptr r 0] (dkO d bm D mx (rdO r rb rf M vs R)) fun v O' => ∃ up, v = .bool up ∧ up = true ∧ ∃ N, O' = dkO d bm D mx (rdO r rb rf M vs (N ++ R)) := by
  rcases Bool.eq_false_or_eq_true D.off with hoff | hoff
  · exact (same_off R d bm D mx r rb rf M vs hD hM hS hi hoff).mono fun v O' ⟨h1, h2⟩ => ⟨true, h1, rfl, h2⟩
  · exact (same_on R d bm D mx r rb rf M vs hD hM hS hi hoff).mono fun v O' ⟨h1, h2⟩ => ⟨true, h1, rfl, h2⟩

end Go.Proofs.Ytahaplbdhgfobaa.Eng

set_option linter.unusedVariables false
set_option linter.unusedSimpArgs false
set_option maxRecDepth 8000
namespace Go.Proofs.Ytahaplbdhgfobaa.Eng

theorem Rowy.low {R : Objs} {sz : Nat} {a : Option Addr} {n c : Nat} {cs : List Value} (hr : Rowy R sz a n cs) (hc : a = none → c = 0) {h : AHeap} (hs : Sat h R) : Low h.n (.slice a n c) := by
  rcases hr with ⟨rfl, rfl, _⟩ | ⟨b, off, y, rfl, hk, _⟩
  · rw [hc rfl]; exact Low.slice0
  · obtain ⟨f, k, hb⟩ := hk _ hs
    exact Low.slice (hs.wf.lt hb)

theorem OpK.low {R : Objs} {o : OpV} (ho : OpK R o) {h : AHeap} (hs : Sat h R) : Low h.n (.agg (encV o).toArray) := by
  refine Low.agg fun v hv => ?_
  simp only [encV, List.mem_cons, List.not_mem_nil, or_false] at hv
  rcases hv with rfl | rfl | rfl | rfl | rfl
  · exact Low.int
  · exact Low.int
  · exact Low.int
  · exact ho.row.low ho.nil hs
  · exact ho.krow.low ho.knil hs

theorem diskRuns_ok (O : Objs) (room : Int) (l : List Int) (a : Option Addr) (c : Nat) (hr64 : In64 room) (hlen : Short l) (h64 : ∀ x ∈ l, In64 x) (hl : Src O 1 (.slice a l.length c) l.length (l.map I)) :
    Spec Try.prog false 5 #[I room, .slice a l.length c] O fun v _ => v = .bool true := by
  have hrr := around_range (n := room) (m := 40) (by decide)
  obtain ⟨k, hk⟩ : ∃ k, k = 12 + around room 40 := ⟨_, rfl⟩
  have hk2 : 12 ≤ k ∧ k ≤ 51 := by omega
  refine Spec.enter (args := [_, _]) (m := 55) Try.func5 rfl rfl (by decide +kernel) fun h0 => ?_
  refine WX.seq ?_
  refine WX.region rfl ?_
  refine WXL.assign Met.none rfl ?_
  refine WXL.nil ?_
  refine Fin.then_normal ?_
  refine WX.seq ?_
  refine WX.region rfl ?_
  refine WXL.move Met.none rfl ?_
  refine WXL.cl (O1 := _) Met.none rfl (fnOk_of Try.func12 (by decide +kernel)) rfl (fun _ h => h) (around_ok _ room 40 hr64 (by decide)) (fun v O' hp => ?_)
  obtain ⟨rfl, hO⟩ := hp
  subst O'
  refine WXL.bin Met.none rfl rfl bvA ?_
  refine WXL.assign Met.none rfl ?_
  refine WXL.nil ?_
  refine Fin.then_normal ?_
  refine WX.seq ?_
  refine WX.region rfl ?_
  refine WXL.move Met.none rfl ?_
  refine WXL.cl (O1 := _) Met.none rfl (fnOk_of Try.func11 (by decide +kernel)) rfl (fun _ h => h) (diskNew_good _ (12 + around room 40) (by omega)) (fun v O' hp => ?_)
  obtain ⟨d, bm, rfl, rfl⟩ := hp
  refine WXL.move Met.none rfl ?_
  refine WXL.extract Met.none rfl rfl ?_
  refine WXL.extract Met.none rfl rfl ?_
  refine WXL.assign Met.none rfl ?_
  refine WXL.assign Met.none rfl ?_
  refine WXL.nil ?_
  refine Fin.then_normal ?_
  refine WX.seq ?_
  refine WX.seq ?_
  refine WX.region rfl ?_
  refine WXL.move Met.none rfl ?_
  refine WXL.eqNilP Met.none rfl rfl Try.underlying23 ?_
  refine WXL.move Met.none rfl ?_
  refine WXL.split (d := 21) rfl (fun hg21 => ?_) (fun hg21 => ?_)
  · try simp only [cnd] at hg21
    exact (by simp at hg21) --end
  · try simp only [cnd] at hg21
    refine WXL.move (Met.some rfl rfl rfl) rfl ?_
    refine WXL.bin (Met.some rfl rfl rfl) rfl rfl rfl ?_
    refine WXL.pick_f Met.none rfl rfl ?_
    refine WXL.nil ?_
    refine Fin.then_normal ?_
    refine WX.cond rfl (fun hc0 => ?_) (fun hc0 => ?_)
    · try simp only [cnd] at hc0
      exact (by simp at hc0) --end
    · try simp only [cnd] at hc0
      refine WX.skip ?_
      refine Fin.then_normal ?_
      refine WX.seq ?_
      refine WX.region rfl ?_
      refine WXL.move Met.none rfl ?_
      refine WXL.cl (O1 := _) Met.none rfl (fnOk_of Try.func22 (by decide +kernel)) rfl (fun _ h => h) (rnew_ok _ (12 + around room 40)) (fun v O' hp => ?_)
      obtain ⟨r, rb, rf, rfl, rfl⟩ := hp
      refine WXL.assign Met.none rfl ?_
      refine WXL.nil ?_
      refine Fin.then_normal ?_
      refine WX.seq ?_
      refine WX.region rfl ?_
      refine WXL.move Met.none rfl ?_
      refine WXL.cl (O1 := _) Met.none rfl (fnOk_of Try.func23 (by decide +kernel)) rfl (fun _ h => h) (ops_ok _ l a c hlen h64 (Src.cons (Src.cons (Src.cons (Src.cons (Src.cons hl)))))) (fun v O' hp => ?_)
      obtain ⟨ao, co, ops, G, N0, rfl, hG, rfl, hol, hok⟩ := hp
      refine WXL.assign Met.none rfl ?_
      refine WXL.nil ?_
      refine Fin.then_normal ?_
      refine WX.seq ?_
      refine WX.seq ?_
      refine WX.region rfl ?_
      refine WXL.assign Met.none rfl ?_
      refine WXL.nil ?_
      refine Fin.then_normal ?_
      refine WX.block ?_
      rw [← hk]
      refine WX.re (O' := dkO d bm ⟨k, false, false, 0, []⟩ .new (rdO r rb rf (newR k) vs0 (G ++ (N0 ++ O)))) ?_
      refine WX.loop (fun q : TwoS => [(6, Ptr d 0), (8, Ptr r 0), (9, .slice ao ops.length co), (10, I (q.i : Int))]) (fun q => dkO d bm q.D q.mx (rdO r rb rf q.M q.vs (G ++ (q.N ++ O)))) (fun q => q.i ≤ ops.length ∧ TwoI ops k q.N q.D q.mx q.M q.vs) (fun q => ops.length - q.i) ⟨0, ⟨k, false, false, 0, []⟩, .new, newR k, vs0, N0⟩ ⟨Nat.zero_le _, by have h9 := (DkI.new (room := k) ⟨by omega, by omega⟩).app (N := N0); rw [List.append_nil] at h9; exact h9, by have h9 := (RdI.new (room := k) ⟨by omega, by omega⟩).app (N := N0); rw [List.append_nil] at h9; exact h9, sim_new, rfl, hok⟩ (fun s hs => hs.tl [] 0) (fun q hq => ?_)
      obtain ⟨i, D, mx, M, vs, N⟩ := q
      obtain ⟨hi, hT⟩ := hq
      simp only at hi hT
      dsimp only
      refine WX.seq ?_
      refine WX.seq ?_
      refine WX.region rfl ?_
      refine WXL.move Met.none rfl ?_
      refine WXL.move Met.none rfl ?_
      refine WXL.len Met.none rfl Try.underlying44 ?_
      refine WXL.bin Met.none rfl rfl rfl ?_
      refine WXL.nil ?_
      refine Fin.then_normal ?_
      refine WX.cond rfl (fun hc1 => ?_) (fun hc1 => ?_)
      · try simp only [cnd] at hc1
        refine WX.skip ?_
        refine Fin.then_normal ?_
        refine WX.seq ?_
        refine WX.block ?_
        refine WX.seq ?_
        have hio : i < ops.length := by omega
        have hoN := hT.ok _ (nth_mem hio)
        obtain ⟨b, rfl, rfl, hcl⟩ : ∃ b, ao = some ⟨b, 0, none⟩ ∧ G = [(b, ⟨5, false, flat encV ops⟩)] ∧ (flat encV ops).length = ops.length * 5 := by
          rcases hG with ⟨_, q, _⟩ | ⟨b, q1, q2, q3⟩
          · omega
          · exact ⟨b, q1, q2, q3⟩
        refine WX.drawE (fun _ => false) (fun j => Nat.beq j 10 || Nat.beq j 65546) [(b, true)] rfl (by decide +kernel) (by decide +kernel) (fun z hz => by rw [List.mem_singleton.1 hz]; exact ⟨⟨5, false, flat encV ops⟩, Knows.mem (by simp)⟩) ?_
        refine WXL.move Met.none rfl ?_
        refine WXL.move Met.none rfl ?_
        refine WXL.move Met.none rfl ?_
        first | refine WXL.ix Met.none rfl rfl elem44 sz48 ?_ | refine WXL.ixS Met.none rfl rfl elem44 sz48 ?_
        first | refine WXL.ldN Met.none rfl agg48 sz48 ?_ (hv := (cellsAt_flat encV_len _ _ hio)) | refine WXL.ldNS Met.none rfl agg48 sz48 ?_ (hv := (cellsAt_flat encV_len _ _ hio))
        refine WXL.clZ (O1 := _) Met.none rfl (fnOk_of Try.func24 (by decide +kernel)) rfl (fun _ h => h) (do_ok _ d bm D mx (nth ops i) hT.dk (by intro Q; simp only [List.countP_append, List.countP_cons]; omega) (by rw [hT.room]; omega) (hoN.inc fun g hg => hg.sub (by intro Q; simp only [List.countP_append, List.countP_cons]; omega))) (fun v O' hp z hz => by rw [List.mem_singleton.1 hz]; obtain ⟨e, D', mx', N', _, rfl, _⟩ := hp; exact ⟨⟨5, false, flat encV ops⟩, Knows.mem (by simp), Knows.mem (by simp)⟩) (fun v O' hp => ?_)
        obtain ⟨e, D', mx', N', rfl, rfl, hD', hdo⟩ := hp
        refine WXL.move Met.none rfl ?_
        refine WXL.move Met.none rfl ?_
        refine WXL.move Met.none rfl ?_
        first | refine WXL.ix Met.none rfl rfl elem44 sz48 ?_ | refine WXL.ixS Met.none rfl rfl elem44 sz48 ?_
        refine WXL.earlyN (e := ⟨5, false, flat encV ops⟩) Met.none rfl (Knows.mem (by simp)) agg48 sz48 (cellsAt_flat encV_len _ _ hio) (fun h hs => hoN.low (hs.sub (by intro Q; simp only [List.countP_append, List.countP_cons]; omega))) (by simp) ?_
        refine WXL.clZ (O1 := rdO r rb rf M vs (dkO d bm D' mx' ([(b, ⟨5, false, flat encV ops⟩)] ++ (N' ++ (N ++ O))))) Met.none rfl (fnOk_of Try.func25 (by decide +kernel)) rfl sub_ (rdo_ok _ r rb rf M vs (nth ops i) hT.rd (by intro Q; simp only [List.countP_append, List.countP_cons]; omega) (hoN.inc fun g hg => hg.sub (by intro Q; simp only [List.countP_append, List.countP_cons]; omega))) (fun v O' hp z hz => by rw [List.mem_singleton.1 hz]; obtain ⟨vs', N2, _, rfl, _⟩ := hp; exact ⟨⟨5, false, flat encV ops⟩, Knows.mem (by simp), Knows.mem (by simp)⟩) (fun v O' hp => ?_)
        obtain ⟨vs', N2, rfl, rfl, hM'⟩ := hp
        obtain ⟨he, hT2⟩ := hT.both hdo hD' hM'
        rw [he]
        refine WXL.bin Met.none rfl rfl rfl ?_
        refine WXL.move Met.none rfl ?_
        refine WXL.split (d := 48) rfl (fun hg48 => ?_) (fun hg48 => ?_)
        · try simp only [cnd] at hg48
          exact (by simp at hg48) --end
        · try simp only [cnd] at hg48
          refine WXL.move (Met.some rfl rfl rfl) rfl ?_
          refine WXL.move (Met.some rfl rfl rfl) rfl ?_
          refine WXL.clZ (O1 := dkO d bm D' mx' (rdO r rb rf (doR M (nth ops i)).2 vs' ((N2 ++ (N' ++ N)) ++ ([(b, ⟨5, false, flat encV ops⟩)] ++ O)))) (Met.some rfl rfl rfl) rfl (fnOk_of Try.func26 (by decide +kernel)) rfl sub_ (same_ok _ d bm D' mx' r rb rf (doR M (nth ops i)).2 vs' hT2.dk hT2.rd hT2.sim (by intro Q; simp only [List.countP_append, List.countP_cons]; omega)) (fun v O' hp z hz => by rw [List.mem_singleton.1 hz]; obtain ⟨_, _, _, N3, rfl⟩ := hp; exact ⟨⟨5, false, flat encV ops⟩, Knows.mem (by simp), Knows.mem (by simp)⟩) (fun v O' hp => ?_)
          obtain ⟨up, rfl, hup, N3, rfl⟩ := hp
          refine WXL.not (Met.some rfl rfl rfl) rfl ?_
          refine WXL.pick_f Met.none rfl rfl ?_
          refine WXL.nil ?_
          refine Fin.then_normal ?_
          refine WX.cond rfl (fun hc2 => ?_) (fun hc2 => ?_)
          · try simp only [cnd] at hc2
            exact absurd hup (by simpa using hc2) --end
          · try simp only [cnd] at hc2
            refine WX.skip ?_
            refine Fin.block_normal ?_
            refine Fin.then_normal ?_
            refine WX.re (O' := dkO d bm D' mx' (rdO r rb rf (doR M (nth ops i)).2 vs' ([(b, ⟨5, false, flat encV ops⟩)] ++ ((N2 ++ (N' ++ N)) ++ O)))) ?_
            refine WX.region rfl ?_
            refine WXL.move Met.none rfl ?_
            refine WXL.bin Met.none rfl rfl bvA ?_
            refine WXL.assign Met.none rfl ?_
            refine WXL.nil ?_
            exact Fin.loop_next (⟨i + 1, D', mx', (doR M (nth ops i)).2, vs', N2 ++ (N' ++ N)⟩ : TwoS) ⟨by simp only; omega, hT2⟩ (by simp only; omega) (fun s hs => hs.tl [] 0)
      · try simp only [cnd] at hc1
        refine WX.exit ?_
        refine Fin.then_exit ?_
        refine Fin.loop_exit ?_
        refine Fin.block_hit rfl ?_
        refine Fin.then_normal ?_
        refine WX.seq ?_
        refine WX.region rfl ?_
        refine WXL.cl (O1 := _) Met.none rfl (fnOk_of Try.func19 (by decide +kernel)) rfl (fun _ h => h) (lives_ok _) (fun v O' hp => ?_)
        obtain ⟨rfl, hO⟩ := hp
        subst O'
        refine WXL.assign Met.none rfl ?_
        refine WXL.nil ?_
        refine Fin.then_normal ?_
        refine WX.ret ?_
        exact Fin.result (O' := []) (.inr rfl) rfl rfl (fun _ hs => ⟨by simp, fun p hp => by simp at hp, hs.wf⟩) rfl

end Go.Proofs.Ytahaplbdhgfobaa.Eng
