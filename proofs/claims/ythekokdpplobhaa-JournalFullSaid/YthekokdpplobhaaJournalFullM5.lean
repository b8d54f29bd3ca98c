/- Few, Records and the comparison of lists. Own work; no condition. | Records out of numbers. Own work; no condition. | The section's examples. Own work; no condition. | The law JournalFrames, walked. Own work; no condition. | The law JournalScans, walked. Own work; no condition. | Disks in plain lists. Own work; no condition. | Small functions of disks: exists, step, set, New, Read. Own work; no condition. | Used, harden, Sync, Truncate. Own work; no condition. | Append to a file of a disk. Own work; no condition. | Open a log. Own work; no condition. | A log's Append, Len, Up; a fresh disk. Own work; no condition. | A log's Append. Own work; no condition. | Logs on a disk that never fails, in plain lists. Own work; no condition. | One byte turned turns the hash, in plain lists. Own work; no condition. | A frame with a bit turned is no frame, in plain lists. Own work; no condition. | The law JournalFull, walked. Own work; no condition. -/
import Derived.Test.YthekokdpplobhaaJournalFullM1
import Derived.Test.YthekokdpplobhaaJournalFullM2
import Derived.Test.YthekokdpplobhaaJournalFullM3
import Derived.Test.YthekokdpplobhaaJournalFullM4
set_option linter.unusedVariables false
set_option linter.unusedSimpArgs false
namespace Go.Proofs.Ythekokdpplobhaa.Eng

theorem few_ok (O : Objs) (b : List Int) (a : Option Addr) (c : Nat) (most : Int) (hm : 0 ≤ most) (hlen : Short b) (hml : most ≤ 1000000000) (hr : Rowy O 1 a b.length (b.map B8)) (hc : a = none → c = 0) :
    Spec Try.prog false 10 #[.slice a b.length c, I most] O fun v O' => ∃ a' c' G, v = .slice a' (b.take most.toNat).length c' ∧ Grow 1 a' (b.take most.toNat).length c' ((b.take most.toNat).map B8) G ∧ O' = G ++ O := by
  unfold Short at hlen
  obtain ⟨m, hm2⟩ : ∃ m, m = (b.take most.toNat).length := ⟨_, rfl⟩
  have hml2 : m = min b.length most.toNat := by rw [hm2, List.length_take]; omega
  have htm : b.take m = b.take most.toNat := by
    rw [hml2]
    rcases Nat.le_total b.length most.toNat with q | q
    · rw [Nat.min_eq_left q, List.take_of_length_le (Nat.le_refl _), List.take_of_length_le q]
    · rw [Nat.min_eq_right q]
  have hr2 := hr.pre (m := m) (by omega)
  rw [Nat.mul_one, ← List.map_take, htm] at hr2
  refine Spec.enter (args := [_, _]) (m := 14) Try.func10 rfl rfl (by decide +kernel) fun h0 => ?_
  refine WX.seq ?_
  refine WX.region rfl ?_
  refine WXL.assign Met.none rfl ?_
  refine WXL.nil ?_
  refine Fin.then_normal ?_
  refine WX.seq ?_
  refine WX.region rfl ?_
  refine WXL.assign Met.none rfl ?_
  refine WXL.nil ?_
  refine Fin.then_normal ?_
  refine WX.seq ?_
  refine WX.region rfl ?_
  refine WXL.move Met.none rfl ?_
  refine WXL.move Met.none rfl ?_
  refine WXL.move Met.none rfl ?_
  refine WXL.len Met.none rfl Try.underlying23 ?_
  refine WXL.move Met.none rfl ?_
  refine WXL.min Met.none rfl rfl ?_
  refine WXL.pre (m := m) Met.none rfl rfl elem23 sz5 hr hc ?_
  refine WXL.apG ([]) Met.none rfl rfl isrow23 elem23 sz5 by5 zero5 (hr2.src (fun q => hr2.nil0 q)) (fun a13 c13 G13 hG13 => ?_) (hm := (by rw [List.length_map, ← hm2]; omega)) (hg := .nil)
  refine WXL.assign Met.none rfl ?_
  refine WXL.nil ?_
  refine Fin.then_normal ?_
  refine WX.ret ?_
  rw [← hm2]
  rw [Nat.zero_add] at hG13
  exact Fin.result (O' := G13 ++ O) (.inr rfl) rfl rfl (fun _ h => h) ⟨a13, c13, G13, by rw [Nat.zero_add]; rfl, hG13, rfl⟩

theorem sameLists_ok (O : Objs) (xs ys : List (List Int)) (vs ws : List Value) (a b : Option Addr) (c e : Nat) (hlen : xs.length ≤ 1000000000) (hsh : ∀ x ∈ xs, x.length ≤ 1000000000) (hv : Src O 1 (.slice a xs.length c) xs.length vs) (hw : Src O 1 (.slice b ys.length e) ys.length ws) (hx : AreB O vs xs) (hy : AreB O ws ys) :
    Spec Try.prog true 17 #[.slice a xs.length c, .slice b ys.length e] O fun v O' => ∃ x, v = .bool x ∧ x = decide (xs = ys) ∧ O' = O := by
  refine Spec.enter (args := [_, _]) (m := 27) Try.func17 rfl rfl (by decide +kernel) fun h0 => ?_
  refine WX.seq ?_
  refine WX.region rfl ?_
  refine WXL.assign Met.none rfl ?_
  refine WXL.nil ?_
  refine Fin.then_normal ?_
  refine WX.seq ?_
  refine WX.seq ?_
  refine WX.region rfl ?_
  refine WXL.move Met.none rfl ?_
  refine WXL.len Met.none rfl Try.underlying27 ?_
  refine WXL.move Met.none rfl ?_
  refine WXL.len Met.none rfl Try.underlying27 ?_
  refine WXL.bin Met.none rfl rfl rfl ?_
  refine WXL.nil ?_
  refine Fin.then_normal ?_
  refine WX.cond rfl (fun hc0 => ?_) (fun hc0 => ?_)
  · try simp only [cnd] at hc0
    refine WX.seq ?_
    refine WX.region rfl ?_
    refine WXL.assign Met.none rfl ?_
    refine WXL.nil ?_
    refine Fin.then_normal ?_
    refine WX.ret ?_
    refine Fin.then_ret ?_
    first
    | exact Fin.result (O' := O) (.inr rfl) rfl rfl drop_ ⟨_, rfl, (decide_eq_false (fun h => hc0 (by rw [h]))).symm, rfl⟩
    | exact Fin.result (O' := O) (.inr rfl) rfl rfl drop_ ⟨_, rfl, (decide_eq_false (fun h => hc2 (by rw [h]))).symm, rfl⟩
    | exact Fin.result (O' := O) (.inr rfl) rfl rfl drop_ ⟨_, rfl, (decide_eq_true (by
        have e1 : k = xs.length := by omega
        have e2 := hk.2
        rw [e1, List.take_length, List.take_of_length_le (by omega)] at e2
        exact e2)).symm, rfl⟩
  · try simp only [cnd] at hc0
    refine WX.skip ?_
    refine Fin.then_normal ?_
    refine WX.seq ?_
    refine WX.seq ?_
    refine WX.region rfl ?_
    refine WXL.assign Met.none rfl ?_
    refine WXL.nil ?_
    refine Fin.then_normal ?_
    refine WX.block ?_
    refine WX.loop (fun k : Nat => [(0, .slice a xs.length c), (1, .slice b ys.length e), (5, I k)]) (fun _ => O) (fun k => k ≤ xs.length ∧ xs.take k = ys.take k) (fun k => xs.length - k) 0 ⟨Nat.zero_le _, rfl⟩ (fun s hs => hs.tl [] 0) (fun k hk => ?_)
    refine WX.seq ?_
    refine WX.seq ?_
    refine WX.region rfl ?_
    refine WXL.move Met.none rfl ?_
    refine WXL.move Met.none rfl ?_
    refine WXL.len Met.none rfl Try.underlying27 ?_
    refine WXL.bin Met.none rfl rfl rfl ?_
    refine WXL.nil ?_
    refine Fin.then_normal ?_
    refine WX.cond rfl (fun hc1 => ?_) (fun hc1 => ?_)
    · try simp only [cnd] at hc1
      refine WX.skip ?_
      refine Fin.then_normal ?_
      refine WX.seq ?_
      refine WX.block ?_
      refine WX.seq ?_
      have hk1 : k < xs.length := by omega
      have hk2 : k < ys.length := by omega
      obtain ⟨a1, c1, e1, s1⟩ := hx.2 k hk1
      obtain ⟨a2, c2, e2, s2⟩ := hy.2 k hk2
      rw [e1] at s1
      rw [e2] at s2
      refine WX.draw rfl ?_
      refine WXL.move Met.none rfl ?_
      refine WXL.move Met.none rfl ?_
      first | refine WXL.ix Met.none rfl rfl elem27 sz23 ?_ | refine WXL.ixS Met.none rfl rfl elem27 sz23 ?_
      first | refine WXL.ld Met.none rfl agg23 ?_ (hv := (show vs[k]? = some (.slice a1 (nth xs k).length c1) from by rw [← e1]; exact nth_eq (by rw [hx.1]; exact hk1))) | refine WXL.ldS Met.none rfl agg23 ?_ (hv := (show vs[k]? = some (.slice a1 (nth xs k).length c1) from by rw [← e1]; exact nth_eq (by rw [hx.1]; exact hk1)))
      refine WXL.move Met.none rfl ?_
      refine WXL.move Met.none rfl ?_
      first | refine WXL.ix Met.none rfl rfl elem27 sz23 ?_ | refine WXL.ixS Met.none rfl rfl elem27 sz23 ?_
      first | refine WXL.ld Met.none rfl agg23 ?_ (hv := (show ws[k]? = some (.slice a2 (nth ys k).length c2) from by rw [← e2]; exact nth_eq (by rw [hy.1]; exact hk2))) | refine WXL.ldS Met.none rfl agg23 ?_ (hv := (show ws[k]? = some (.slice a2 (nth ys k).length c2) from by rw [← e2]; exact nth_eq (by rw [hy.1]; exact hk2)))
      refine WXL.cl (O1 := _) Met.none rfl (fnOk_of Try.func11 (by decide +kernel)) rfl (fun _ h => h) (sameB_ok O (nth xs k) (nth ys k) a1 a2 c1 c2 (by have := hsh _ (nth_mem hk1); unfold Short; omega) s1 s2) (fun v O' hp => ?_)
      obtain ⟨rfl, hO⟩ := hp
      subst O'
      refine WXL.not Met.none rfl ?_
      refine WXL.nil ?_
      refine Fin.then_normal ?_
      refine WX.cond rfl (fun hc2 => ?_) (fun hc2 => ?_)
      · try simp only [cnd] at hc2
        refine WX.seq ?_
        refine WX.region rfl ?_
        refine WXL.assign Met.none rfl ?_
        refine WXL.nil ?_
        refine Fin.then_normal ?_
        refine WX.ret ?_
        refine Fin.block_ret ?_
        refine Fin.then_ret ?_
        refine Fin.loop_ret ?_
        refine Fin.block_ret ?_
        refine Fin.then_ret ?_
        first
        | exact Fin.result (O' := O) (.inr rfl) rfl rfl drop_ ⟨_, rfl, (decide_eq_false (fun h => hc0 (by rw [h]))).symm, rfl⟩
        | exact Fin.result (O' := O) (.inr rfl) rfl rfl drop_ ⟨_, rfl, (decide_eq_false (fun h => hc2 (by rw [h]))).symm, rfl⟩
        | exact Fin.result (O' := O) (.inr rfl) rfl rfl drop_ ⟨_, rfl, (decide_eq_true (by
            have e1 : k = xs.length := by omega
            have e2 := hk.2
            rw [e1, List.take_length, List.take_of_length_le (by omega)] at e2
            exact e2)).symm, rfl⟩
      · try simp only [cnd] at hc2
        refine WX.skip ?_
        refine Fin.block_normal ?_
        refine Fin.then_normal ?_
        refine WX.region rfl ?_
        refine WXL.move Met.none rfl ?_
        refine WXL.bin Met.none rfl rfl bvA ?_
        refine WXL.assign Met.none rfl ?_
        refine WXL.nil ?_
        refine Fin.loop_next (k + 1) ⟨by omega, ?_⟩ (by omega) (fun s hs => hs.tl [] 0)
        rw [take_succ_nth hk1, take_succ_nth hk2, hk.2, hc2]
    · try simp only [cnd] at hc1
      refine WX.exit ?_
      refine Fin.then_exit ?_
      refine Fin.loop_exit ?_
      refine Fin.block_hit rfl ?_
      refine Fin.then_normal ?_
      refine WX.seq ?_
      refine WX.region rfl ?_
      refine WXL.assign Met.none rfl ?_
      refine WXL.nil ?_
      refine Fin.then_normal ?_
      refine WX.ret ?_
      first
      | exact Fin.result (O' := O) (.inr rfl) rfl rfl drop_ ⟨_, rfl, (decide_eq_false (fun h => hc0 (by rw [h]))).symm, rfl⟩
      | exact Fin.result (O' := O) (.inr rfl) rfl rfl drop_ ⟨_, rfl, (decide_eq_false (fun h => hc2 (by rw [h]))).symm, rfl⟩
      | exact Fin.result (O' := O) (.inr rfl) rfl rfl drop_ ⟨_, rfl, (decide_eq_true (by
          have e1 : k = xs.length := by omega
          have e2 := hk.2
          rw [e1, List.take_length, List.take_of_length_le (by omega)] at e2
          exact e2)).symm, rfl⟩

end Go.Proofs.Ythekokdpplobhaa.Eng

set_option linter.unusedVariables false
set_option linter.unusedSimpArgs false
namespace Go.Proofs.Ythekokdpplobhaa.Eng

theorem around_range {n m : Int} (hm : 0 < m) : 0 ≤ around n m ∧ around n m < m := by
  unfold around
  split
  · rw [Int.tmod_eq_emod_of_nonneg (by omega)]
    exact ⟨Int.emod_nonneg _ (by omega), Int.emod_lt_of_pos _ hm⟩
  · rw [Int.tmod_eq_emod_of_nonneg (by omega)]
    exact ⟨Int.emod_nonneg _ (by omega), Int.emod_lt_of_pos _ hm⟩

theorem wrap8_lt (n : Int) : 0 ≤ IntKind.wrap .u8 n ∧ IntKind.wrap .u8 n < 256 := by
  unfold IntKind.wrap
  have e1 : (2 : Int) ^ IntKind.bits .u8 = 256 := rfl
  have e3 : IntKind.signed .u8 = false := rfl
  simp only [e1, e3, Bool.false_and, Bool.false_eq_true, if_false]
  omega

structure RcQ where
  xs : List (List Int)
  a : Option Addr
  c : Nat
  vs : List Value
  G : Objs
  R : Objs

/-- Few short records. -/
def Recs (xs : List (List Int)) : Prop := xs.length ≤ 6 ∧ ∀ x ∈ xs, Bytes x ∧ x.length ≤ 10

theorem mkRecords_own (O : Objs) (l : List Int) (a : Option Addr) (c : Nat) (hl64 : ∀ n ∈ l, In64 n) (hlen : Short l) (hl : Src O 1 (.slice a l.length c) l.length (l.map I)) :
    Spec Try.prog false 14 #[.slice a l.length c] O fun v O' => ∃ xs ao co vs G R, v = .slice ao xs.length co ∧ Grow 1 ao xs.length co vs G ∧ AreB R vs xs ∧ Recs xs ∧ O' = G ++ (R ++ O) := by
  unfold Short at hlen
  refine Spec.enter (args := [_]) (m := 44) Try.func14 rfl rfl (by decide +kernel) fun h0 => ?_
  refine WX.seq ?_
  refine WX.region rfl ?_
  refine WXL.assign Met.none rfl ?_
  refine WXL.nil ?_
  refine Fin.then_normal ?_
  refine WX.seq ?_
  refine WX.region rfl ?_
  refine WXL.assign Met.none rfl ?_
  refine WXL.nil ?_
  refine Fin.then_normal ?_
  refine WX.seq ?_
  refine WX.seq ?_
  refine WX.region rfl ?_
  refine WXL.assign Met.none rfl ?_
  refine WXL.nil ?_
  refine Fin.then_normal ?_
  refine WX.block ?_
  refine WX.loop (fun q : RcQ => [(0, .slice a l.length c), (3, .slice q.a q.xs.length q.c), (4, I (q.xs.length : Int))]) (fun q => q.G ++ (q.R ++ O)) (fun q => q.xs.length ≤ l.length ∧ Grow 1 q.a q.xs.length q.c q.vs q.G ∧ AreB q.R q.vs q.xs ∧ Recs q.xs) (fun q => 6 - q.xs.length) ⟨[], none, 0, [], [], []⟩ ⟨Nat.zero_le _, .nil, .nil, by decide, fun x hx => by simp at hx⟩ (fun s hs => hs.tl [] 0) (fun q hq => ?_)
  obtain ⟨xs, ao, co, vs, G, R⟩ := q
  obtain ⟨h1, hG, hvs, hR1, hR2⟩ := hq
  simp only at h1 hG hvs hR1 hR2
  dsimp only
  have hls : Src (G ++ (R ++ O)) 1 (.slice a l.length c) l.length (l.map I) := Src.app (Src.app hl)
  refine WX.seq ?_
  refine WX.seq ?_
  refine WX.region rfl ?_
  refine WXL.move Met.none rfl ?_
  refine WXL.move Met.none rfl ?_
  refine WXL.len Met.none rfl Try.underlying22 ?_
  refine WXL.bin Met.none rfl rfl rfl ?_
  refine WXL.move Met.none rfl ?_
  refine WXL.split (d := 12) rfl (fun hg12 => ?_) (fun hg12 => ?_)
  · try simp only [cnd] at hg12
    refine WXL.move (Met.some rfl rfl rfl) rfl ?_
    refine WXL.bin (Met.some rfl rfl rfl) rfl rfl rfl ?_
    refine WXL.pick_t Met.none rfl rfl ?_
    refine WXL.nil ?_
    refine Fin.then_normal ?_
    refine WX.cond rfl (fun hc0 => ?_) (fun hc0 => ?_)
    · try simp only [cnd] at hc0
      refine WX.skip ?_
      refine Fin.then_normal ?_
      refine WX.seq ?_
      refine WX.block ?_
      refine WX.seq ?_
      have hk1 : xs.length < l.length := by omega
      have hn64 := hl64 _ (nth_mem hk1)
      obtain ⟨n, hn⟩ : ∃ n, n = around (nth l xs.length) 1000 := ⟨_, rfl⟩
      have hnr := around_range (n := nth l xs.length) (m := 1000) (by decide)
      rw [← hn] at hnr
      refine WX.region rfl ?_
      refine WXL.move Met.none rfl ?_
      refine WXL.move Met.none rfl ?_
      first | refine WXL.ix Met.none rfl rfl elem22 sz3 ?_ | refine WXL.ixS Met.none rfl rfl elem22 sz3 ?_
      first | refine WXL.ld Met.none rfl agg3 ?_ | refine WXL.ldS Met.none rfl agg3 ?_
      refine WXL.cl (O1 := _) Met.none rfl (fnOk_of Try.func19 (by decide +kernel)) rfl (fun _ h => h) (around_ok _ (nth l xs.length) 1000 hn64 (by decide)) (fun v O' hp => ?_)
      obtain ⟨rfl, hO⟩ := hp
      subst O'
      rw [← hn]
      have hnm : 0 ≤ n.tmod 11 ∧ n.tmod 11 ≤ 10 := by rw [Int.tmod_eq_emod_of_nonneg hnr.1]; omega
      refine WXL.assign Met.none rfl ?_
      refine WXL.nil ?_
      refine Fin.then_normal ?_
      refine WX.seq ?_
      refine WX.region rfl ?_
      refine WXL.assign Met.none rfl ?_
      refine WXL.nil ?_
      refine Fin.then_normal ?_
      refine WX.seq ?_
      refine WX.seq ?_
      refine WX.region rfl ?_
      refine WXL.assign Met.none rfl ?_
      refine WXL.nil ?_
      refine Fin.then_normal ?_
      refine WX.block ?_
      refine WX.loop (fun q : List Int × Option Addr × Nat × Objs => [(0, .slice a l.length c), (3, .slice ao xs.length co), (4, I (xs.length : Int)), (5, I n), (6, .slice q.2.1 q.1.length q.2.2.1), (7, I (q.1.length : Int))]) (fun q => q.2.2.2 ++ (G ++ (R ++ O))) (fun q => (q.1.length : Int) ≤ n.tmod 11 ∧ Bytes q.1 ∧ Grow 1 q.2.1 q.1.length q.2.2.1 (q.1.map B8) q.2.2.2) (fun q => 10 - q.1.length) ([], none, 0, []) ⟨by simp only [List.length_nil]; omega, fun x hx => by simp at hx, .nil⟩ (fun s hs => hs.tl [] 0) (fun q hq => ?_)
      obtain ⟨y, ay, cy, Gy⟩ := q
      obtain ⟨hy1, hyB, hGy⟩ := hq
      simp only at hy1 hyB hGy
      dsimp only
      refine WX.seq ?_
      refine WX.seq ?_
      refine WX.region rfl ?_
      refine WXL.move Met.none rfl ?_
      refine WXL.move Met.none rfl ?_
      refine WXL.rem Met.none rfl rfl (by omega) ?_
      refine WXL.bin Met.none rfl rfl rfl ?_
      refine WXL.nil ?_
      refine Fin.then_normal ?_
      refine WX.cond rfl (fun hc1 => ?_) (fun hc1 => ?_)
      · try simp only [cnd] at hc1
        refine WX.skip ?_
        refine Fin.then_normal ?_
        refine WX.seq ?_
        refine WX.block ?_
        refine WX.region rfl ?_
        refine WXL.move Met.none rfl ?_
        refine WXL.move Met.none rfl ?_
        refine WXL.qu Met.none rfl rfl ?_
        refine WXL.move Met.none rfl ?_
        refine WXL.move Met.none rfl ?_
        refine WXL.bin Met.none rfl rfl rfl ?_
        refine WXL.bin Met.none rfl rfl rfl ?_
        refine WXL.conv Met.none rfl Try.underlying3 Try.underlying5 rfl ?_
        refine WXL.buildSlice (c := [_]) Met.none rfl elem23 sz5 zero5 (by decide) (by decide) rfl rfl rfl rfl (fun b37 => ?_)
        refine WXL.apG [_] Met.none rfl rfl isrow23 elem23 sz5 by5 zero5 (Src.lit (cs := [_])) (fun a38 c38 G38 hG38 => ?_)
        refine WXL.assign Met.none rfl ?_
        refine WXL.nil ?_
        refine Fin.block_normal ?_
        refine Fin.then_normal ?_
        refine WX.region rfl ?_
        refine WXL.move Met.none rfl ?_
        refine WXL.bin Met.none rfl rfl bvA ?_
        refine WXL.assign Met.none rfl ?_
        refine WXL.nil ?_
        refine Fin.loop_next (y ++ [IntKind.wrap .u8 (IntKind.wrap .i64 (n.tdiv 11 + IntKind.wrap .i64 ((y.length : Int) * n)))], a38, c38, G38) ⟨by simp only [List.length_append, List.length_singleton]; omega, ?_, ?_⟩ (by simp only [List.length_append, List.length_singleton]; omega) ?_
        · intro z hz
          rcases List.mem_append.1 hz with q | q
          · exact hyB z q
          · rw [List.mem_singleton] at q; subst q; exact wrap8_lt _
        · simp only [List.length_append, List.length_singleton, List.map_append]; exact hG38
        · simp only [List.length_append, List.length_singleton]
          exact (fun s hs => hs.tl [] 1)
      · try simp only [cnd] at hc1
        refine WX.exit ?_
        refine Fin.then_exit ?_
        refine Fin.loop_exit ?_
        refine Fin.block_hit rfl ?_
        refine Fin.then_normal ?_
        refine WX.re (O' := G ++ (Gy ++ (R ++ O))) ?_
        refine WX.region rfl ?_
        refine WXL.move Met.none rfl ?_
        refine WXL.move Met.none rfl ?_
        refine WXL.buildSlice (c := [_]) Met.none rfl elem27 sz23 zero23 (by decide) (by decide) rfl rfl rfl rfl (fun b41 => ?_)
        refine WXL.apG [_] Met.none rfl rfl isrow27 elem27 sz23 by23 zero23 (Src.lit (cs := [_])) (fun a42 c42 G42 hG42 => ?_)
        refine WXL.assign Met.none rfl ?_
        refine WXL.nil ?_
        refine Fin.block_normal ?_
        refine Fin.then_normal ?_
        refine WX.region rfl ?_
        refine WXL.move Met.none rfl ?_
        refine WXL.bin Met.none rfl rfl bvA ?_
        refine WXL.assign Met.none rfl ?_
        refine WXL.nil ?_
        refine Fin.loop_next (⟨xs ++ [y], a42, c42, vs ++ [.slice ay y.length cy], G42, Gy ++ R⟩ : RcQ) ⟨by simp only [List.length_append, List.length_singleton]; omega, ?_, ?_, ?_, ?_⟩ (by simp only [List.length_append, List.length_singleton]; omega) ?_
        · simp only [List.length_append, List.length_singleton]; exact hG42
        · simp only
          exact hvs.app.snoc ⟨ay, cy, rfl, hGy.src⟩
        · simp only [List.length_append, List.length_singleton]; omega
        · intro x hx
          rcases List.mem_append.1 hx with q | q
          · exact hR2 x q
          · rw [List.mem_singleton] at q; subst q; exact ⟨hyB, by omega⟩
        · simp only [List.length_append, List.length_singleton, List.append_assoc]
          exact (fun s hs => hs.tl [] 1)
    · try simp only [cnd] at hc0
      refine WX.exit ?_
      refine Fin.then_exit ?_
      refine Fin.loop_exit ?_
      refine Fin.block_hit rfl ?_
      refine Fin.then_normal ?_
      refine WX.seq ?_
      refine WX.region rfl ?_
      refine WXL.move Met.none rfl ?_
      refine WXL.assign Met.none rfl ?_
      refine WXL.nil ?_
      refine Fin.then_normal ?_
      refine WX.ret ?_
      exact Fin.result (O' := G ++ (R ++ O)) (.inr rfl) rfl rfl sub_ ⟨xs, ao, co, vs, G, R, rfl, hG, hvs, ⟨hR1, hR2⟩, rfl⟩
  · try simp only [cnd] at hg12
    refine WXL.miss (j := 4) (d := 12) rfl rfl rfl ?_
    refine WXL.miss (j := 4) (d := 12) rfl rfl rfl ?_
    refine WXL.pick_f Met.none rfl rfl ?_
    refine WXL.nil ?_
    refine Fin.then_normal ?_
    refine WX.cond rfl (fun hc0 => nomatch hc0) (fun hc0 => ?_)
    refine WX.exit ?_
    refine Fin.then_exit ?_
    refine Fin.loop_exit ?_
    refine Fin.block_hit rfl ?_
    refine Fin.then_normal ?_
    refine WX.seq ?_
    refine WX.region rfl ?_
    refine WXL.move Met.none rfl ?_
    refine WXL.assign Met.none rfl ?_
    refine WXL.nil ?_
    refine Fin.then_normal ?_
    refine WX.ret ?_
    exact Fin.result (O' := G ++ (R ++ O)) (.inr rfl) rfl rfl sub_ ⟨xs, ao, co, vs, G, R, rfl, hG, hvs, ⟨hR1, hR2⟩, rfl⟩

theorem mkRecords_ok (O : Objs) (l : List Int) (a : Option Addr) (c : Nat) (hl64 : ∀ n ∈ l, In64 n) (hlen : Short l) (hl : Src O 1 (.slice a l.length c) l.length (l.map I)) :
    Spec Try.prog false 14 #[.slice a l.length c] O fun v O' => ∃ xs ao co vs G R, v = .slice ao xs.length co ∧ Grow 1 ao xs.length co vs G ∧ AreB (R ++ O) vs xs ∧ Recs xs ∧ O' = G ++ (R ++ O) :=
  (mkRecords_own O l a c hl64 hlen hl).mono fun v O' ⟨xs, ao, co, vs, G, R, h1, h2, h3, h4, h5⟩ => ⟨xs, ao, co, vs, G, R, h1, h2, h3.right, h4, h5⟩

end Go.Proofs.Ythekokdpplobhaa.Eng

set_option linter.unusedVariables false
set_option linter.unusedSimpArgs false
namespace Go.Proofs.Ythekokdpplobhaa.Eng

theorem Src.row1 {O : Objs} {b n c : Nat} {r : Bool} {cs : List Value} (hl : cs.length = n) : Src ((b, ⟨1, r, cs⟩) :: O) 1 (.slice (some ⟨b, 0, none⟩) n c) n cs :=
  Src.of (y := ⟨1, r, cs⟩) (Knows.at 0 rfl) (by show 0 + n * 1 ≤ cs.length; omega) (by show (cs.drop 0).take (n * 1) = cs; rw [Nat.mul_one, List.drop_zero, ← hl, List.take_length])

theorem byte_of {n : Int} (h : 0 ≤ n ∧ n ≤ 255) : 0 ≤ n ∧ n < 256 := ⟨h.1, by have := h.2; omega⟩

theorem bytes_of {l : List Int} (h : ∀ n ∈ l, 0 ≤ n ∧ n ≤ 255) : Bytes l := fun n hn => ⟨(h n hn).1, by have := (h n hn).2; omega⟩

theorem varU_pos (n : Nat) : 0 < (varU n).length := by
  rw [varU]; split <;> simp

theorem rawB_pos (x : List Int) : x.length < (rawB x).length := by
  unfold rawB
  have := varU_pos x.length
  rw [List.length_append]
  omega

theorem frameB_four (i : Int) (x : List Int) : x.length + 4 ≤ (frameB i x).length := by
  unfold frameB
  rw [List.length_append]
  have h1 := rawB_pos (coreB i x)
  have h2 := varU_pos (hashB lblF (coreB i x)).toNat
  have h3 := rawB_pos x
  have h4 := varU_pos (zigU i).toNat
  have h5 : (coreB i x).length = (varU (zigU i).toNat).length + (rawB x).length := by unfold coreB; rw [List.length_append]
  omega

theorem core07 : coreB 0 [7] = [0, 1, 7] := by
  unfold coreB rawB
  have h1 : (zigU 0).toNat = 0 := rfl
  rw [h1, varU_lt (by decide), varU_lt (by decide)]
  rfl

theorem scan_short (i : Nat) {b : List Int} (h : b.length < 4) : scanP i b = ([], 0) := by
  rw [scanP, dif_neg]
  rintro ⟨_, h2⟩
  have := h2.length_le
  have := frameB_four i (recordP b)
  omega

theorem recs07 : recsP (frameB 0 [7] ++ [3, 0, 1]) = [[7]] ∧ endP (frameB 0 [7] ++ [3, 0, 1]) 1 = (frameB 0 [7]).length := by
  have h := scanP_frames [3, 0, 1] [[7]] 0 (by decide) (by intro x hx; simp at hx; subst hx; decide)
  have e : framesB 0 [[7]] = frameB 0 [7] := by rw [framesB_cons]; show _ ++ [] = _; rw [List.append_nil]; rfl
  have h0 : scanP (0 + ([[7]] : List (List Int)).length) [3, 0, 1] = ([], 0) := scan_short _ (by decide)
  rw [e, h0] at h
  have h1 : recsP (frameB 0 [7] ++ [3, 0, 1]) = [[7]] := by unfold recsP; rw [h]; rfl
  refine ⟨h1, ?_⟩
  unfold endP
  rw [h1]
  show (framesB 0 [[7]]).length = _
  rw [e]

theorem frame07 : 4 < (frameB 0 [7]).length := frameB_four 0 [7]

theorem lives_ok (O : Objs) : Spec Try.prog false 18 #[] O fun v O' => v = .bool true ∧ O' = O := by
  have hf7 := frame07
  have hfl : (frameB 0 [7]).length ≤ 100 := by
    unfold frameB
    rw [List.length_append]
    have h1 := rawB_len (b := coreB 0 [7]) (by rw [core07]; decide)
    have h2 := hashB_range lblF (coreB 0 [7])
    have h3 := varU_len (k := 9) (n := (hashB lblF (coreB 0 [7])).toNat) (by unfold InU at h2; omega)
    rw [core07] at *
    simp only [List.length_cons, List.length_nil] at h1
    omega
  have hhr := hashB_range lblF [0, 1, 7]
  have hB7 : Bytes [7] := by intro x hx; simp at hx; omega
  have hB017 : Bytes [0, 1, 7] := by intro x hx; simp at hx; omega
  have hBl : Bytes lblF := by unfold lblF; intro x hx; simp at hx; omega
  have hrl := rawB_len (b := [0, 1, 7]) (by decide)
  have hfe : rawB [0, 1, 7] ++ varU (hashB lblF [0, 1, 7]).toNat = frameB 0 [7] := by unfold frameB; rw [core07]
  obtain ⟨hr1, hr2⟩ := recs07
  simp only [List.length_cons, List.length_nil] at hrl
  refine Spec.enter (args := []) (m := 40) Try.func18 rfl rfl (by decide +kernel) fun h0 => ?_
  refine WX.seq ?_
  refine WX.region rfl ?_
  refine WXL.assign Met.none rfl ?_
  refine WXL.nil ?_
  refine Fin.then_normal ?_
  refine WX.seq ?_
  refine WX.region rfl ?_
  refine WXL.buildSlice (c := [_]) Met.none rfl elem23 sz5 zero5 (by decide) (by decide) rfl rfl rfl rfl (fun b6 => ?_)
  refine WXL.cl (O1 := _) Met.none rfl (fnOk_of Try.func12 (by decide +kernel)) rfl (fun _ h => h) (frame_ok _ 0 [7] (some ⟨b6, 0, none⟩) 1 (by unfold In64; decide) hB7 (by decide) (Src.lit)) (fun v O' hp => ?_)
  obtain ⟨a1, c1, G1, rfl, hG1, rfl⟩ := hp
  refine WXL.assign Met.none rfl ?_
  refine WXL.nil ?_
  refine Fin.then_normal ?_
  refine WX.seq ?_
  refine WX.region rfl ?_
  refine WXL.alloc (c := [_]) Met.none zero37 rfl (fun b2 => ?_)
  refine WXL.nil ?_
  refine Fin.then_normal ?_
  refine WX.seq ?_
  refine WX.region rfl ?_
  refine WXL.buildSlice (c := [_, _, _]) Met.none rfl elem23 sz5 zero5 (by decide) (by decide) rfl rfl rfl rfl (fun b8 => ?_)
  refine WXL.cl (O1 := (b2, ⟨0, false, [.slice none 0 0]⟩) :: ([] ++ ((b8, ⟨1, false, [B8 0, B8 1, B8 7]⟩) :: (G1 ++ ((b6, ⟨1, false, [B8 7]⟩) :: O))))) Met.none rfl (fnOk_of Try.func21 (by decide +kernel)) rfl (fun _ hs => hs.tl [1, 0] 2) (wRaw_ok _ [] b2 [] [0, 1, 7] none (some ⟨b8, 0, none⟩) 0 3 hB017 (by decide) (by decide) .nil (Src.lit)) (fun v O' hp => ?_)
  obtain ⟨a2, c2, G2, hG2, rfl⟩ := hp
  rw [show [] ++ (varU ([0, 1, 7] : List Int).length ++ [0, 1, 7]) = rawB [0, 1, 7] from rfl] at hG2 ⊢
  refine WXL.nil ?_
  refine Fin.then_normal ?_
  refine WX.seq ?_
  refine WX.region rfl ?_
  refine WXL.buildSlice (c := [_, _, _]) Met.none rfl elem23 sz5 zero5 (by decide) (by decide) rfl rfl rfl rfl (fun b10 => ?_)
  refine WXL.cl (O1 := _) Met.none rfl (fnOk_of Try.func28 (by decide +kernel)) rfl (fun _ h => h) (hash_ok _ lblF [0, 1, 7] (some ⟨b10, 0, none⟩) 3 hBl hB017 (by decide) (by decide) (Src.lit)) (fun v O' hp => ?_)
  obtain ⟨rfl, hO⟩ := hp
  subst O'
  rw [show U (hashB lblF [0, 1, 7]) = U (((hashB lblF [0, 1, 7]).toNat : Nat) : Int) from by rw [Int.toNat_of_nonneg hhr.1]]
  refine WXL.cl (O1 := (b2, ⟨0, false, [.slice a2 (rawB [0, 1, 7]).length c2]⟩) :: (G2 ++ (G1 ++ O))) Met.none rfl (fnOk_of Try.func23 (by decide +kernel)) rfl sub_ (wUint_ok _ G2 b2 (rawB [0, 1, 7]) a2 c2 (hashB lblF [0, 1, 7]).toNat (by unfold InU at hhr; omega) (by omega) hG2) (fun v O' hp => ?_)
  obtain ⟨a3, c3, G3, hG3, rfl⟩ := hp
  rw [hfe] at hG3 ⊢
  refine WXL.nil ?_
  refine Fin.then_normal ?_
  refine WX.seq ?_
  refine WX.region rfl ?_
  refine WXL.move Met.none rfl ?_
  refine WXL.len Met.none rfl Try.underlying23 ?_
  refine WXL.assign Met.none rfl ?_
  refine WXL.nil ?_
  refine Fin.then_normal ?_
  refine WX.seq ?_
  refine WX.region rfl ?_
  refine WXL.move Met.none rfl ?_
  refine WXL.buildSlice (c := [_, _, _]) Met.none rfl elem23 sz5 zero5 (by decide) (by decide) rfl rfl rfl rfl (fun b17 => ?_)
  refine WXL.appendS (_ :: _ :: G3) Met.none rfl rfl isrow23 elem23 sz5 by5 zero5 (Src.lit (cs := [_, _, _])) (fun o18 b18 ha18 => ?_)
  have hsl : (frameB 0 [7]).length + 3 = (frameB 0 [7] ++ [3, 0, 1]).length := by rw [List.length_append]; rfl
  subst ha18
  rw [hsl]
  refine WXL.cl (O1 := _) Met.none rfl (fnOk_of Try.func15 (by decide +kernel)) rfl (fun _ h => h) (scan_ok _ (frameB 0 [7] ++ [3, 0, 1]) (some ⟨b18, 0, none⟩) _ (fun x hx => by
  rcases List.mem_append.1 hx with q | q
  · exact frameB_bytes hB7 x q
  · simp at q; omega) (by rw [← hsl]; omega) (.inr ⟨b18, 0, _, rfl, Knows.at 0 rfl, rfl, by rw [← hsl]; simp, by
    rw [← hsl]
    show (List.map B8 (frameB 0 [7]) ++ [B8 3, B8 0, B8 1]).take (((frameB 0 [7]).length + 3) * 1) = _
    rw [List.take_of_length_le (by simp), List.map_append]
    rfl⟩) (fun q => by cases q)) (fun v O' hp => ?_)
  obtain ⟨ao, co, ws, Go, Ro, rfl, hGo, hRo, rfl⟩ := hp
  rw [hr1] at hGo hRo ⊢
  refine WXL.move Met.none rfl ?_
  refine WXL.extract Met.none rfl rfl ?_
  refine WXL.extract Met.none rfl rfl ?_
  refine WXL.assign Met.none rfl ?_
  refine WXL.assign Met.none rfl ?_
  refine WXL.nil ?_
  refine Fin.then_normal ?_
  refine WX.seq ?_
  refine WX.region rfl ?_
  refine WXL.move Met.none rfl ?_
  refine WXL.cl (O1 := _) Met.none rfl (fnOk_of Try.func22 (by decide +kernel)) rfl (fun _ h => h) (done_ok _ G3 b2 (frameB 0 [7]) a3 c3 (by omega) hG3 (Src.app (Src.app (Src.cons (Src.cons (Src.cons hG3.src))))) (Knows.app (Knows.app (Knows.cons (Knows.cons (Knows.at 0 rfl)))))) (fun v O' hp => ?_)
  obtain ⟨a4, c4, G4, rfl, hG4, rfl⟩ := hp
  refine WXL.cl (O1 := _) Met.none rfl (fnOk_of Try.func11 (by decide +kernel)) rfl (fun _ h => h) (sameB_ok _ (frameB 0 [7]) (frameB 0 [7]) (some ⟨o18, 0, none⟩) a4 c1 c4 (by unfold Short; omega) (Src.app (Src.app (Src.app (Src.cons (Src.cons (Src.cons (Src.app (Src.row1 (by simp))))))))) hG4.src) (fun v O' hp => ?_)
  obtain ⟨rfl, hO⟩ := hp
  subst O'
  refine WXL.move Met.none rfl ?_
  refine WXL.split (d := 25) rfl (fun hg25 => ?_) (fun hg25 => ?_)
  · try simp only [cnd] at hg25
    refine WXL.move (Met.some rfl rfl rfl) rfl ?_
    refine WXL.bin (Met.some rfl rfl rfl) rfl rfl rfl ?_
    refine WXL.pick_t Met.none rfl rfl ?_
    refine WXL.move Met.none rfl ?_
    refine WXL.split (d := 29) rfl (fun hg29 => ?_) (fun hg29 => ?_)
    · try simp only [cnd] at hg29
      refine WXL.move (Met.some rfl rfl rfl) rfl ?_
      refine WXL.move (Met.some rfl rfl rfl) rfl ?_
      refine WXL.bin (Met.some rfl rfl rfl) rfl rfl rfl ?_
      refine WXL.pick_t Met.none rfl rfl ?_
      refine WXL.move Met.none rfl ?_
      refine WXL.split (d := 34) rfl (fun hg34 => ?_) (fun hg34 => ?_)
      · try simp only [cnd] at hg34
        refine WXL.move (Met.some rfl rfl rfl) rfl ?_
        refine WXL.buildSlice (c := [_]) (Met.some rfl rfl rfl) rfl elem23 sz5 zero5 (by decide) (by decide) rfl rfl rfl rfl (fun b36 => ?_)
        refine WXL.buildSlice (c := [_]) (Met.some rfl rfl rfl) rfl elem27 sz23 zero23 (by decide) (by decide) rfl rfl rfl rfl (fun b37 => ?_)
        refine WXL.cl (O1 := _) (Met.some rfl rfl rfl) rfl (fnOk_of Try.func17 (by decide +kernel)) rfl (fun _ h => h) (sameLists_ok _ [[7]] [[7]] ws [.slice (some ⟨b36, 0, none⟩) 1 1] ao (some ⟨b37, 0, none⟩) co 1 (by decide) (by intro x hx; simp at hx; subst hx; decide) (Src.cons (Src.cons (Src.app hGo.src))) (Src.lit) hRo.app.app.cons.cons ⟨rfl, fun k hk => by
        have : k = 0 := by simp at hk; omega
        subst this
        exact ⟨some ⟨b36, 0, none⟩, 1, rfl, Src.cons (Src.lit)⟩⟩) (fun v O' hp => ?_)
        obtain ⟨bx, rfl, hbx, rfl⟩ := hp
        rw [decide_eq_true rfl] at hbx
        subst hbx
        refine WXL.pick_t Met.none rfl rfl ?_
        refine WXL.assign Met.none rfl ?_
        refine WXL.nil ?_
        refine Fin.then_normal ?_
        refine WX.ret ?_
        exact Fin.result (O' := O) (.inr rfl) rfl rfl sub_ ⟨rfl, rfl⟩
      · try simp only [cnd] at hg34
        exact absurd hg34 (by have := hr2; simp only [List.length_cons, List.length_nil, Nat.zero_add]; omega) --end
    · try simp only [cnd] at hg29
      exact absurd hg29 (by omega) --end
  · try simp only [cnd] at hg25
    exact (by simp at hg25) --end

end Go.Proofs.Ythekokdpplobhaa.Eng

set_option linter.unusedVariables false
set_option linter.unusedSimpArgs false
namespace Go.Proofs.Ythekokdpplobhaa.Eng

theorem framesB_snoc (i : Nat) (l : List (List Int)) (x : List Int) : framesB i (l ++ [x]) = framesB i l ++ frameB ((i + l.length : Nat) : Int) x := by
  rw [framesB_append, framesB_cons]
  show _ ++ (_ ++ []) = _
  rw [List.append_nil]

theorem frameB_len {i : Int} {x : List Int} (hi : In64 i) (hx : x.length ≤ 1000) : (frameB i x).length ≤ x.length + 50 := by
  unfold frameB
  rw [List.length_append]
  have h0 := coreB_len hi (b := x) (by omega)
  have h1 := rawB_len (b := coreB i x) (by omega)
  have h2 := hashB_range lblF (coreB i x)
  have h3 := varU_len (k := 9) (n := (hashB lblF (coreB i x)).toNat) (by unfold InU at h2; omega)
  omega

theorem framesB_le : ∀ (l : List (List Int)) (i : Nat), i + l.length ≤ 1000000 → (∀ x ∈ l, x.length ≤ 200) → (framesB i l).length ≤ 250 * l.length
  | [], _, _, _ => Nat.zero_le _
  | x :: l, i, hi, hl => by
    simp only [List.length_cons] at hi
    have h1 := framesB_le l (i + 1) (by omega) fun y hy => hl y (List.mem_cons_of_mem _ hy)
    have h2 := hl x (List.mem_cons_self ..)
    have h3 := frameB_len (i := (i : Int)) (x := x) (by unfold In64; omega) (by omega)
    rw [framesB_cons, List.length_append, List.length_cons]
    omega

theorem framesB_bytes : ∀ (l : List (List Int)) (i : Nat), (∀ x ∈ l, Bytes x) → Bytes (framesB i l)
  | [], _, _ => fun x hx => by simp [framesB] at hx
  | y :: l, i, h => fun x hx => by
    rw [framesB_cons] at hx
    rcases List.mem_append.1 hx with q | q
    · exact frameB_bytes (h y (List.mem_cons_self ..)) x q
    · exact framesB_bytes l (i + 1) (fun z hz => h z (List.mem_cons_of_mem _ hz)) x q

theorem framesB_mem : ∀ (l : List (List Int)) (i : Nat) (x : List Int), x ∈ l → x.length ≤ (framesB i l).length
  | [], _, _, h => by simp at h
  | y :: l, i, x, h => by
    rw [framesB_cons, List.length_append]
    rcases List.mem_cons.1 h with rfl | h
    · have := frameB_four (i : Int) x
      omega
    · have := framesB_mem l (i + 1) x h
      omega

theorem recsP_mem {b x : List Int} (h : x ∈ recsP b) : x.length ≤ b.length := Nat.le_trans (framesB_mem _ 0 x h) (scanP_len b 0).2.length_le

theorem take_bytes {l : List Int} {k : Nat} (h : Bytes l) : Bytes (l.take k) := fun x hx => h x (List.mem_of_mem_take hx)

theorem AreB.take {O : Objs} {vs : List Value} {xs ys : List (List Int)} {n : Nat} (h : AreB O vs xs) (hn : n ≤ xs.length) (he : xs.take n = ys) : AreB O (vs.take n) ys := by
  obtain ⟨h1, h2⟩ := h
  subst he
  refine ⟨by rw [List.length_take, List.length_take, h1], fun k hk => ?_⟩
  rw [List.length_take] at hk
  have e1 : nth (vs.take n) k = nth vs k := by
    rw [nth_get (by rw [List.length_take, h1]; exact hk), nth_get (by omega), List.getElem_take]
  have e2 : nth (xs.take n) k = nth xs k := by
    rw [nth_get (by rw [List.length_take]; exact hk), nth_get (by omega), List.getElem_take]
  rw [e1, e2]
  exact h2 k (by omega)

theorem journalFrames_ok (O : Objs) (l : List Int) (number : Int) (b rest : List Int) (al ab ar : Option Addr) (cl cb cr : Nat) (h64 : ∀ n ∈ l, In64 n) (hll : Short l) (hn : In64 number) (hBb : Bytes b) (hbl : Short b) (hBr : Bytes rest) (hrl : Short rest)
    (hl : Src O 1 (.slice al l.length cl) l.length (l.map I)) (hb : Rowy O 1 ab b.length (b.map B8)) (kb : ab = none → cb = 0) (hr : Rowy O 1 ar rest.length (rest.map B8)) (kr : ar = none → cr = 0) :
    Spec Try.prog false 3 #[.slice al l.length cl, I number, .slice ab b.length cb, .slice ar rest.length cr] O fun v _ => v = .bool true := by
  obtain ⟨own, hown⟩ : ∃ own, own = b.take 200 := ⟨_, rfl⟩
  have hol : own.length ≤ 200 := by rw [hown, List.length_take]; omega
  have hoB : Bytes own := hown ▸ take_bytes hBb
  have hfl := frameB_len hn (x := own) (by omega)
  refine Spec.enter (args := [_, _, _, _]) (m := 94) Try.func3 rfl rfl (by decide +kernel) fun h0 => ?_
  refine WX.seq ?_
  refine WX.region rfl ?_
  refine WXL.assign Met.none rfl ?_
  refine WXL.nil ?_
  refine Fin.then_normal ?_
  refine WX.seq ?_
  refine WX.region rfl ?_
  refine WXL.move Met.none rfl ?_
  refine WXL.cl (O1 := _) Met.none rfl (fnOk_of Try.func10 (by decide +kernel)) rfl (fun _ h => h) (few_ok O b ab cb 200 (by decide) hbl (by decide) hb kb) (fun v O' hp => ?_)
  obtain ⟨a1, c1, G1, rfl, hG1, rfl⟩ := hp
  rw [show b.take (200 : Int).toNat = own from hown.symm] at hG1 ⊢
  refine WXL.assign Met.none rfl ?_
  refine WXL.nil ?_
  refine Fin.then_normal ?_
  refine WX.seq ?_
  refine WX.seq ?_
  refine WX.region rfl ?_
  refine WXL.move Met.none rfl ?_
  refine WXL.move Met.none rfl ?_
  refine WXL.cl (O1 := _) Met.none rfl (fnOk_of Try.func12 (by decide +kernel)) rfl (fun _ h => h) (frame_ok _ number own a1 c1 hn hoB (by omega) hG1.src) (fun v O' hp => ?_)
  obtain ⟨a2, c2, G2, rfl, hG2, rfl⟩ := hp
  refine WXL.move Met.none rfl ?_
  refine WXL.move Met.none rfl ?_
  refine WXL.cl (O1 := _) Met.none rfl (fnOk_of Try.func13 (by decide +kernel)) rfl (fun _ h => h) (refFrame_ok _ number own a1 c1 hn hoB (by omega) (Src.app hG1.src)) (fun v O' hp => ?_)
  obtain ⟨a3, c3, G3, rfl, hG3, rfl⟩ := hp
  refine WXL.cl (O1 := _) Met.none rfl (fnOk_of Try.func11 (by decide +kernel)) rfl (fun _ h => h) (sameB_ok _ (frameB number own) (frameB number own) a2 a3 c2 c3 (by unfold Short; omega) (Src.app hG2.src) hG3.src) (fun v O' hp => ?_)
  obtain ⟨rfl, hO⟩ := hp
  subst O'
  refine WXL.not Met.none rfl ?_
  refine WXL.nil ?_
  refine Fin.then_normal ?_
  refine WX.cond rfl (fun hc0 => ?_) (fun hc0 => ?_)
  · try simp only [cnd] at hc0
    exact (by simp at hc0) --end
  · try simp only [cnd] at hc0
    refine WX.skip ?_
    refine Fin.then_normal ?_
    refine WX.seq ?_
    refine WX.re (O' := G1 ++ O) ?_
    refine WX.region rfl ?_
    refine WXL.move Met.none rfl ?_
    refine WXL.cl (O1 := _) Met.none rfl (fnOk_of Try.func14 (by decide +kernel)) rfl (fun _ h => h) (mkRecords_ok _ l al cl h64 hll hl.app) (fun v O' hp => ?_)
    obtain ⟨xs, a4, c4, vs, G4, R4, rfl, hG4, hvs, ⟨hx1, hx2⟩, rfl⟩ := hp
    refine WXL.move Met.none rfl ?_
    refine WXL.buildSlice (c := [_]) Met.none rfl elem27 sz23 zero23 (by decide) (by decide) rfl rfl rfl rfl (fun b31 => ?_)
    refine WXL.apG [_] Met.none rfl rfl isrow27 elem27 sz23 by23 zero23 (Src.lit (cs := [_])) (fun a32 c32 G32 hG32 => ?_)
    refine WXL.assign Met.none rfl ?_
    refine WXL.nil ?_
    refine Fin.then_normal ?_
    refine WX.seq ?_
    obtain ⟨ys, hys⟩ : ∃ ys, ys = xs ++ [own] := ⟨_, rfl⟩
    obtain ⟨ws, hws⟩ : ∃ ws, ws = vs ++ [.slice a1 own.length c1] := ⟨_, rfl⟩
    obtain ⟨B, hB⟩ : ∃ B, B = R4 ++ (G1 ++ O) := ⟨_, rfl⟩
    have hyl : xs.length + 1 = ys.length := by rw [hys, List.length_append]; rfl
    have hG : Grow 1 a32 ys.length c32 ws G32 := by rw [← hyl, hws]; exact hG32
    have hW : AreB B ws ys := by rw [hB, hws, hys]; exact hvs.snoc ⟨a1, c1, rfl, Src.app hG1.src⟩
    have hrB : Rowy B 1 ar rest.length (rest.map B8) := by rw [hB]; exact hr.app.app
    have hy7 : ys.length ≤ 7 := by omega
    have hyx : ∀ x ∈ ys, Bytes x ∧ x.length ≤ 200 := by
      intro x hx
      rw [hys] at hx
      rcases List.mem_append.1 hx with q | q
      · exact ⟨(hx2 x q).1, by have := (hx2 x q).2; omega⟩
      · rw [List.mem_singleton] at q; subst q; exact ⟨hoB, hol⟩
    have hfle : ∀ k, (framesB 0 (ys.take k)).length ≤ 250 * 7 := fun k => by
      have h1 : (ys.take k).length ≤ 7 := by rw [List.length_take]; omega
      have := framesB_le (ys.take k) 0 (by omega) fun x hx => (hyx x (List.mem_of_mem_take hx)).2
      omega
    rw [hyl]
    refine WX.re (O' := G32 ++ B) (c := _) ?_ (by rw [hB]; exact sub_)
    clear hvs hG32
    refine WX.region rfl ?_
    refine WXL.assign Met.none rfl ?_
    refine WXL.nil ?_
    refine Fin.then_normal ?_
    refine WX.seq ?_
    refine WX.seq ?_
    refine WX.region rfl ?_
    refine WXL.assign Met.none rfl ?_
    refine WXL.nil ?_
    refine Fin.then_normal ?_
    refine WX.block ?_
    refine WX.loop (fun q : Nat × Option Addr × Nat × Objs => [(3, .slice ar rest.length cr), (10, .slice a32 ys.length c32), (11, .slice q.2.1 (framesB 0 (ys.take q.1)).length q.2.2.1), (12, I (q.1 : Int))]) (fun q => q.2.2.2 ++ (G32 ++ B)) (fun q => q.1 ≤ ys.length ∧ Grow 1 q.2.1 (framesB 0 (ys.take q.1)).length q.2.2.1 ((framesB 0 (ys.take q.1)).map B8) q.2.2.2) (fun q => ys.length - q.1) (0, none, 0, []) ⟨Nat.zero_le _, .nil⟩ (fun s hs => hs.tl [] 0) (fun q hq => ?_)
    obtain ⟨k, aa, ca, Ga⟩ := q
    obtain ⟨hk, hGa⟩ := hq
    simp only at hk hGa
    dsimp only
    refine WX.seq ?_
    refine WX.seq ?_
    refine WX.region rfl ?_
    refine WXL.move Met.none rfl ?_
    refine WXL.move Met.none rfl ?_
    refine WXL.len Met.none rfl Try.underlying27 ?_
    refine WXL.bin Met.none rfl rfl rfl ?_
    refine WXL.nil ?_
    refine Fin.then_normal ?_
    refine WX.cond rfl (fun hc1 => ?_) (fun hc1 => ?_)
    · try simp only [cnd] at hc1
      refine WX.skip ?_
      refine Fin.then_normal ?_
      refine WX.seq ?_
      refine WX.block ?_
      have hk1 : k < ys.length := by omega
      obtain ⟨ax, cx, ex, sx⟩ := hW.2 k hk1
      rw [ex] at sx
      obtain ⟨hxB, hxl⟩ := hyx _ (nth_mem hk1)
      have hk64 : In64 (k : Int) := by unfold In64; omega
      have hfx := frameB_len hk64 (x := nth ys k) (by omega)
      have hfk := hfle k
      have hsrcx : Src (Ga ++ (G32 ++ B)) 1 (.slice a32 ys.length c32) ys.length ws := Src.app hG.src
      have htk : framesB 0 (ys.take (k + 1)) = framesB 0 (ys.take k) ++ frameB (k : Int) (nth ys k) := by
        rw [take_succ_nth hk1, framesB_snoc, List.length_take, Nat.min_eq_left (by omega), Nat.zero_add]
      refine WX.region rfl ?_
      refine WXL.move Met.none rfl ?_
      refine WXL.move Met.none rfl ?_
      refine WXL.move Met.none rfl ?_
      refine WXL.move Met.none rfl ?_
      first | refine WXL.ix Met.none rfl rfl elem27 sz23 ?_ | refine WXL.ixS Met.none rfl rfl elem27 sz23 ?_
      first | refine WXL.ld Met.none rfl agg23 ?_ (hv := (show ws[k]? = some (.slice ax (nth ys k).length cx) from by rw [← ex]; exact nth_eq (by rw [hW.1]; exact hk1))) | refine WXL.ldS Met.none rfl agg23 ?_ (hv := (show ws[k]? = some (.slice ax (nth ys k).length cx) from by rw [← ex]; exact nth_eq (by rw [hW.1]; exact hk1)))
      refine WXL.cl (O1 := _) Met.none rfl (fnOk_of Try.func12 (by decide +kernel)) rfl (fun _ h => h) (frame_ok _ (k : Int) (nth ys k) ax cx hk64 hxB (by omega) (Src.app (Src.app sx))) (fun v O' hp => ?_)
      obtain ⟨a9, c9, G9, rfl, hG9, rfl⟩ := hp
      refine WXL.apG (G9) Met.none rfl rfl isrow23 elem23 sz5 by5 zero5 src_ (fun a46 c46 G46 hG46 => ?_) (hm := (by rw [List.length_map]; omega))
      refine WXL.assign Met.none rfl ?_
      refine WXL.nil ?_
      refine Fin.block_normal ?_
      refine Fin.then_normal ?_
      refine WX.re (O' := G46 ++ (G32 ++ B)) ?_
      have hG' : Grow 1 a46 (framesB 0 (ys.take (k + 1))).length c46 ((framesB 0 (ys.take (k + 1))).map B8) G46 := by
        rw [htk, List.length_append, List.map_append]; exact hG46
      rw [show (framesB 0 (ys.take k)).length + (frameB (k : Int) (nth ys k)).length = (framesB 0 (ys.take (k + 1))).length from by rw [htk, List.length_append]]
      refine WX.region rfl ?_
      refine WXL.move Met.none rfl ?_
      refine WXL.bin Met.none rfl rfl bvA ?_
      refine WXL.assign Met.none rfl ?_
      refine WXL.nil ?_
      exact Fin.loop_next (k + 1, a46, c46, G46) ⟨by simp only; omega, hG'⟩ (by simp only; omega) (fun s hs => hs.tl [] 0)
    · try simp only [cnd] at hc1
      refine WX.exit ?_
      refine Fin.then_exit ?_
      refine Fin.loop_exit ?_
      refine Fin.block_hit rfl ?_
      refine Fin.then_normal ?_
      refine WX.seq ?_
      have hkk : k = ys.length := by omega
      subst hkk
      have hfk := hfle ys.length
      rw [List.take_length] at hGa hfk
      rw [List.take_length]
      obtain ⟨F, hF⟩ : ∃ F, F = framesB 0 ys := ⟨_, rfl⟩
      rw [← hF] at hGa hfk
      rw [← hF]
      refine WX.region rfl ?_
      refine WXL.move Met.none rfl ?_
      refine WXL.len Met.none rfl Try.underlying23 ?_
      refine WXL.assign Met.none rfl ?_
      refine WXL.nil ?_
      refine Fin.then_normal ?_
      refine WX.seq ?_
      refine WX.region rfl ?_
      refine WXL.move Met.none rfl ?_
      refine WXL.move Met.none rfl ?_
      refine WXL.cl (O1 := _) Met.none rfl (fnOk_of Try.func10 (by decide +kernel)) rfl (fun _ h => h) (few_ok _ rest ar cr 30 (by decide) hrl (by decide) hrB.app.app kr) (fun v O' hp => ?_)
      obtain ⟨a5, c5, G5, rfl, hG5, rfl⟩ := hp
      obtain ⟨t, ht⟩ : ∃ t, t = rest.take (30 : Int).toNat := ⟨_, rfl⟩
      have htl : t.length ≤ 30 := by rw [ht, List.length_take]; show min 30 _ ≤ 30; omega
      have htB : Bytes t := ht ▸ take_bytes hBr
      rw [← ht] at hG5 ⊢
      refine WXL.apG (G5) Met.none rfl rfl isrow23 elem23 sz5 by5 zero5 src_ (fun a52 c52 G52 hG52 => ?_) (hm := (by rw [List.length_map]; omega))
      refine WXL.assign Met.none rfl ?_
      refine WXL.nil ?_
      refine Fin.then_normal ?_
      refine WX.seq ?_
      obtain ⟨T, hT⟩ : ∃ T, T = F ++ t := ⟨_, rfl⟩
      have hTl : F.length + t.length = T.length := by rw [hT, List.length_append]
      have hTB : Bytes T := by
        rw [hT, hF]
        intro x hx
        rcases List.mem_append.1 hx with q | q
        · exact framesB_bytes ys 0 (fun z hz => (hyx z hz).1) x q
        · exact htB x q
      have hGT : Grow 1 a52 T.length c52 (T.map B8) G52 := by rw [← hTl, hT, List.map_append]; exact hG52
      have hsc := scanP_frames t ys 0 (by omega) (fun x hx => by have := (hyx x hx).2; omega)
      rw [← hF, ← hT] at hsc
      have hrec : recsP T = ys ++ (scanP (0 + ys.length) t).1 := by unfold recsP; rw [hsc]
      have hend : F.length ≤ endP T (recsP T).length := by
        rw [← scan2, hsc]
        simp only
        omega
      have hrl2 : ys.length ≤ (recsP T).length := by rw [hrec, List.length_append]; omega
      have hrt : (recsP T).take ys.length = ys := by rw [hrec, List.take_left]
      have hrm : ∀ x ∈ recsP T, x.length ≤ 1000000000 := fun x hx => by have := recsP_mem hx; omega
      have hrlen := recsP_len T
      rw [hTl]
      refine WX.re (O' := G52 ++ (G32 ++ B)) ?_
      refine WX.region rfl ?_
      refine WXL.move Met.none rfl ?_
      refine WXL.cl (O1 := _) Met.none rfl (fnOk_of Try.func15 (by decide +kernel)) rfl (fun _ h => h) (scan_ok _ T a52 c52 hTB (by omega) hGT.rowy (fun q => (hGT.nil0 q).1)) (fun v O' hp => ?_)
      obtain ⟨ag, cg, gs, Gg, Rg, rfl, hGg, hgs, rfl⟩ := hp
      refine WXL.move Met.none rfl ?_
      refine WXL.extract Met.none rfl rfl ?_
      refine WXL.extract Met.none rfl rfl ?_
      refine WXL.assign Met.none rfl ?_
      refine WXL.assign Met.none rfl ?_
      refine WXL.nil ?_
      refine Fin.then_normal ?_
      refine WX.seq ?_
      refine WX.region rfl ?_
      refine WXL.move Met.none rfl ?_
      refine WXL.cl (O1 := _) Met.none rfl (fnOk_of Try.func16 (by decide +kernel)) rfl (fun _ h => h) (refScan_ok _ T a52 c52 hTB (by omega) (Rowy.app (Rowy.app hGT.rowy)) (fun q => (hGT.nil0 q).1)) (fun v O' hp => ?_)
      obtain ⟨aw, cw, us, Gw, rfl, hGw, hus, rfl⟩ := hp
      refine WXL.move Met.none rfl ?_
      refine WXL.extract Met.none rfl rfl ?_
      refine WXL.extract Met.none rfl rfl ?_
      refine WXL.assign Met.none rfl ?_
      refine WXL.assign Met.none rfl ?_
      refine WXL.nil ?_
      refine Fin.then_normal ?_
      refine WX.seq ?_
      refine WX.region rfl ?_
      refine WXL.move Met.none rfl ?_
      refine WXL.move Met.none rfl ?_
      refine WXL.bin Met.none rfl rfl rfl ?_
      refine WXL.move Met.none rfl ?_
      refine WXL.split (d := 66) rfl (fun hg66 => ?_) (fun hg66 => ?_)
      · try simp only [cnd] at hg66
        refine WXL.move (Met.some rfl rfl rfl) rfl ?_
        refine WXL.move (Met.some rfl rfl rfl) rfl ?_
        refine WXL.cl (O1 := _) (Met.some rfl rfl rfl) rfl (fnOk_of Try.func17 (by decide +kernel)) rfl (fun _ h => h) (sameLists_ok _ (recsP T) (recsP T) gs us ag aw cg cw (by omega) hrm (Src.app hGg.src) hGw.src (AreB.app (AreB.app hgs)) (AreB.app hus)) (fun v O' hp => ?_)
        obtain ⟨x1, rfl, hx1', rfl⟩ := hp
        refine WXL.pick_t Met.none rfl rfl ?_
        refine WXL.move Met.none rfl ?_
        refine WXL.split (d := 71) rfl (fun hg71 => ?_) (fun hg71 => ?_)
        · try simp only [cnd] at hg71
          refine WXL.move (Met.some rfl rfl rfl) rfl ?_
          refine WXL.move (Met.some rfl rfl rfl) rfl ?_
          refine WXL.bin (Met.some rfl rfl rfl) rfl rfl rfl ?_
          refine WXL.pick_t Met.none rfl rfl ?_
          refine WXL.move Met.none rfl ?_
          refine WXL.split (d := 76) rfl (fun hg76 => ?_) (fun hg76 => ?_)
          · try simp only [cnd] at hg76
            refine WXL.move (Met.some rfl rfl rfl) rfl ?_
            refine WXL.len (Met.some rfl rfl rfl) rfl Try.underlying27 ?_
            refine WXL.move (Met.some rfl rfl rfl) rfl ?_
            refine WXL.len (Met.some rfl rfl rfl) rfl Try.underlying27 ?_
            refine WXL.bin (Met.some rfl rfl rfl) rfl rfl rfl ?_
            refine WXL.pick_t Met.none rfl rfl ?_
            refine WXL.move Met.none rfl ?_
            refine WXL.split (d := 83) rfl (fun hg83 => ?_) (fun hg83 => ?_)
            · try simp only [cnd] at hg83
              refine WXL.move (Met.some rfl rfl rfl) rfl ?_
              refine WXL.move (Met.some rfl rfl rfl) rfl ?_
              refine WXL.len (Met.some rfl rfl rfl) rfl Try.underlying27 ?_
              refine WXL.pre (m := ys.length) (Met.some rfl rfl rfl) rfl rfl elem27 sz23 (Rowy.app hGg.rowy) (fun q => (hGg.nil0 q).1) ?_
              refine WXL.move (Met.some rfl rfl rfl) rfl ?_
              refine WXL.cl (O1 := _) (Met.some rfl rfl rfl) rfl (fnOk_of Try.func17 (by decide +kernel)) rfl (fun _ h => h) ((by
              have hpre := (Rowy.app (N := Gw) (hGg.rowy (R := Rg ++ (G52 ++ (G32 ++ B))))).pre (m := ys.length) hrl2
              rw [Nat.mul_one] at hpre
              exact sameLists_ok _ ys ys (gs.take ys.length) ws ag a32 ys.length c32 (by omega) (fun x hx => by have := (hyx x hx).2; omega) (hpre.src (fun q => hpre.nil0 q)) (Src.app (Src.app (Src.app (Src.app hG.src)))) (AreB.take (AreB.app (AreB.app hgs)) hrl2 hrt) (AreB.app (AreB.app (AreB.app (AreB.app (AreB.app hW))))))) (fun v O' hp => ?_)
              obtain ⟨x2, rfl, hx2', rfl⟩ := hp
              refine WXL.pick_t Met.none rfl rfl ?_
              refine WXL.move Met.none rfl ?_
              refine WXL.split (d := 91) rfl (fun hg91 => ?_) (fun hg91 => ?_)
              · try simp only [cnd] at hg91
                refine WXL.cl (O1 := _) (Met.some rfl rfl rfl) rfl (fnOk_of Try.func18 (by decide +kernel)) rfl (fun _ h => h) (lives_ok _) (fun v O' hp => ?_)
                obtain ⟨rfl, hO⟩ := hp
                subst O'
                refine WXL.pick_t Met.none rfl rfl ?_
                refine WXL.assign Met.none rfl ?_
                refine WXL.nil ?_
                refine Fin.then_normal ?_
                refine WX.ret ?_
                exact Fin.result (O' := []) (.inr rfl) rfl rfl (fun _ hs => ⟨by simp, fun p hp => by simp at hp, hs.wf⟩) rfl
              · try simp only [cnd] at hg91
                exact (by rw [hg91] at hx2'; simp at hx2') --end
            · try simp only [cnd] at hg83
              exact absurd hg83 (by omega) --end
          · try simp only [cnd] at hg76
            exact absurd hg76 (by omega) --end
        · try simp only [cnd] at hg71
          exact (by rw [hg71] at hx1'; simp at hx1') --end
      · try simp only [cnd] at hg66
        exact (by simp at hg66) --end

end Go.Proofs.Ythekokdpplobhaa.Eng

set_option linter.unusedVariables false
set_option linter.unusedSimpArgs false
namespace Go.Proofs.Ythekokdpplobhaa.Eng

theorem Knows.roh {O : Objs} {b : Nat} {y : Ent} (hk : Knows O b y) : Knows (roO O) b (roE y) := fun h hh => by
  obtain ⟨f, k, e⟩ := hk _ (onlyO_sat hh)
  simp only [onlyO] at e
  split at e
  · rename_i p hp
    have hpm := List.mem_of_find?_eq_some hp
    have hpb : p.1 = b := Nat.eq_of_beq_eq_true (List.find?_some (p := fun q : Nat × Ent => Nat.beq q.1 b) hp)
    injection e with e1 e2 e3 e4 e5 e6
    obtain ⟨f1, k1, e7⟩ := hh.is (p.1, roE p.2) (List.mem_map.2 ⟨p, hpm, rfl⟩)
    refine ⟨f1, k1, ?_⟩
    rw [← hpb]
    simp only [roE] at e7 ⊢
    rw [e7, e1, e6]
  · cases e

theorem Rowy.roh {O : Objs} {n : Nat} {a : Option Addr} {cs : List Value} (h : Rowy O 1 a n cs) : Rowy (roO O) 1 a n cs := by
  rcases h with h | ⟨b, off, y, h1, h2, h3, h4, h5⟩
  · exact .inl h
  · exact .inr ⟨b, off, roE y, h1, h2.roh, h3, h4, h5⟩

theorem few_q (O : Objs) (b : List Int) (a : Option Addr) (c : Nat) (most : Int) (hm : 0 ≤ most) (hlen : Short b) (hml : most ≤ 1000000000) (hr : Rowy O 1 a b.length (b.map B8)) (hc : a = none → c = 0) :
    Spec Try.prog true 10 #[.slice a b.length c, I most] O fun v O' => ∃ a' c' G, v = .slice a' (b.take most.toNat).length c' ∧ Grow 1 a' (b.take most.toNat).length c' ((b.take most.toNat).map B8) G ∧ O' = G ++ O :=
  (Spec.frame (Post := fun v N => ∃ a' c', v = .slice a' (b.take most.toNat).length c' ∧ Grow 1 a' (b.take most.toNat).length c' ((b.take most.toNat).map B8) N)
    ((few_ok (roO O) b a c most hm hlen hml hr.roh hc).mono fun v O' ⟨a', c', G, h1, h2, h3⟩ => ⟨G, ⟨a', c', h1, h2⟩, h2.own, h3⟩)).mono fun v O' ⟨N, ⟨a', c', h1, h2⟩, h3⟩ => ⟨a', c', N, h1, h2, h3⟩

theorem refFrame_q (O : Objs) (n : Int) (b : List Int) (a : Option Addr) (c : Nat) (hn : In64 n) (hb : Bytes b) (hlen : b.length ≤ 100000) (hl : Src O 1 (.slice a b.length c) b.length (b.map B8)) :
    Spec Try.prog true 13 #[I n, .slice a b.length c] O fun v O' => ∃ a' c' G, v = .slice a' (frameB n b).length c' ∧ Grow 1 a' (frameB n b).length c' ((frameB n b).map B8) G ∧ O' = G ++ O :=
  (Spec.frame (Post := fun v N => ∃ a' c', v = .slice a' (frameB n b).length c' ∧ Grow 1 a' (frameB n b).length c' ((frameB n b).map B8) N)
    ((refFrame_ok (roO O) n b a c hn hb hlen hl.roh).mono fun v O' ⟨a', c', G, h1, h2, h3⟩ => ⟨G, ⟨a', c', h1, h2⟩, h2.own, h3⟩)).mono fun v O' ⟨N, ⟨a', c', h1, h2⟩, h3⟩ => ⟨a', c', N, h1, h2, h3⟩

/-- A row that may be scanned. -/
def ScanRow (O : Objs) (v : Value) (x : List Int) : Prop := ∃ a c, v = .slice a x.length c ∧ Rowy O 1 a x.length (x.map B8) ∧ (a = none → c = 0) ∧ Bytes x ∧ x.length ≤ 100000

theorem journalScans_ok (O : Objs) (raw l : List Int) (at_ ch : Int) (ar al : Option Addr) (cr cl : Nat) (h64 : ∀ n ∈ l, In64 n) (hll : Short l) (hat : In64 at_) (hch : 0 ≤ ch ∧ ch < 256) (hBr : Bytes raw) (hrl : Short raw)
    (hl : Src O 1 (.slice al l.length cl) l.length (l.map I)) (hr : Rowy O 1 ar raw.length (raw.map B8)) (kr : ar = none → cr = 0) :
    Spec Try.prog false 4 #[.slice ar raw.length cr, .slice al l.length cl, I at_, B8 ch] O fun v _ => v = .bool true := by
  refine Spec.enter (args := [_, _, _, _]) (m := 84) Try.func4 rfl rfl (by decide +kernel) fun h0 => ?_
  refine WX.seq ?_
  refine WX.region rfl ?_
  refine WXL.assign Met.none rfl ?_
  refine WXL.nil ?_
  refine Fin.then_normal ?_
  refine WX.seq ?_
  refine WX.region rfl ?_
  refine WXL.move Met.none rfl ?_
  refine WXL.cl (O1 := _) Met.none rfl (fnOk_of Try.func14 (by decide +kernel)) rfl (fun _ h => h) (mkRecords_ok _ l al cl h64 hll hl) (fun v O' hp => ?_)
  obtain ⟨ys, a4, c4, ws, G4, R4, rfl, hG, hW, ⟨hx1, hx2⟩, rfl⟩ := hp
  refine WXL.assign Met.none rfl ?_
  refine WXL.nil ?_
  refine Fin.then_normal ?_
  refine WX.seq ?_
  obtain ⟨B, hB⟩ : ∃ B, B = R4 ++ O := ⟨_, rfl⟩
  rw [← hB] at hW ⊢
  have hrB : Rowy B 1 ar raw.length (raw.map B8) := by rw [hB]; exact hr.app
  have hfle : ∀ k, (framesB 0 (ys.take k)).length ≤ 250 * 7 := fun k => by
    have h1 : (ys.take k).length ≤ 7 := by rw [List.length_take]; omega
    have := framesB_le (ys.take k) 0 (by omega) fun x hx => by have := (hx2 x (List.mem_of_mem_take hx)).2; omega
    omega
  refine WX.region rfl ?_
  refine WXL.assign Met.none rfl ?_
  refine WXL.nil ?_
  refine Fin.then_normal ?_
  refine WX.seq ?_
  refine WX.seq ?_
  refine WX.region rfl ?_
  refine WXL.assign Met.none rfl ?_
  refine WXL.nil ?_
  refine Fin.then_normal ?_
  refine WX.block ?_
  refine WX.loop (fun q : Nat × Option Addr × Nat × Objs => [(0, .slice ar raw.length cr), (2, I at_), (3, B8 ch), (9, .slice a4 ys.length c4), (10, .slice q.2.1 (framesB 0 (ys.take q.1)).length q.2.2.1), (11, I (q.1 : Int))]) (fun q => q.2.2.2 ++ (G4 ++ B)) (fun q => q.1 ≤ ys.length ∧ Grow 1 q.2.1 (framesB 0 (ys.take q.1)).length q.2.2.1 ((framesB 0 (ys.take q.1)).map B8) q.2.2.2) (fun q => ys.length - q.1) (0, none, 0, []) ⟨Nat.zero_le _, .nil⟩ (fun s hs => hs.tl [] 0) (fun q hq => ?_)
  obtain ⟨k, aa, ca, Ga⟩ := q
  obtain ⟨hk, hGa⟩ := hq
  simp only at hk hGa
  dsimp only
  refine WX.seq ?_
  refine WX.seq ?_
  refine WX.region rfl ?_
  refine WXL.move Met.none rfl ?_
  refine WXL.move Met.none rfl ?_
  refine WXL.len Met.none rfl Try.underlying27 ?_
  refine WXL.bin Met.none rfl rfl rfl ?_
  refine WXL.nil ?_
  refine Fin.then_normal ?_
  refine WX.cond rfl (fun hc0 => ?_) (fun hc0 => ?_)
  · try simp only [cnd] at hc0
    refine WX.skip ?_
    refine Fin.then_normal ?_
    refine WX.seq ?_
    refine WX.block ?_
    have hk1 : k < ys.length := by omega
    obtain ⟨ax, cx, ex, sx⟩ := hW.2 k hk1
    rw [ex] at sx
    obtain ⟨hxB, hxl⟩ := hx2 _ (nth_mem hk1)
    have hk64 : In64 (k : Int) := by unfold In64; omega
    have hfx := frameB_len hk64 (x := nth ys k) (by omega)
    have hfk := hfle k
    have hsrcx : Src (Ga ++ (G4 ++ B)) 1 (.slice a4 ys.length c4) ys.length ws := Src.app hG.src
    have htk : framesB 0 (ys.take (k + 1)) = framesB 0 (ys.take k) ++ frameB (k : Int) (nth ys k) := by
      rw [take_succ_nth hk1, framesB_snoc, List.length_take, Nat.min_eq_left (by omega), Nat.zero_add]
    refine WX.region rfl ?_
    refine WXL.move Met.none rfl ?_
    refine WXL.move Met.none rfl ?_
    refine WXL.move Met.none rfl ?_
    refine WXL.move Met.none rfl ?_
    first | refine WXL.ix Met.none rfl rfl elem27 sz23 ?_ | refine WXL.ixS Met.none rfl rfl elem27 sz23 ?_
    first | refine WXL.ld Met.none rfl agg23 ?_ (hv := (show ws[k]? = some (.slice ax (nth ys k).length cx) from by rw [← ex]; exact nth_eq (by rw [hW.1]; exact hk1))) | refine WXL.ldS Met.none rfl agg23 ?_ (hv := (show ws[k]? = some (.slice ax (nth ys k).length cx) from by rw [← ex]; exact nth_eq (by rw [hW.1]; exact hk1)))
    refine WXL.cl (O1 := _) Met.none rfl (fnOk_of Try.func13 (by decide +kernel)) rfl (fun _ h => h) (refFrame_ok _ (k : Int) (nth ys k) ax cx hk64 hxB (by omega) (Src.app (Src.app sx))) (fun v O' hp => ?_)
    obtain ⟨a9, c9, G9, rfl, hG9, rfl⟩ := hp
    refine WXL.apG (G9) Met.none rfl rfl isrow23 elem23 sz5 by5 zero5 src_ (fun a33 c33 G33 hG33 => ?_) (hm := (by rw [List.length_map]; omega))
    refine WXL.assign Met.none rfl ?_
    refine WXL.nil ?_
    refine Fin.block_normal ?_
    refine Fin.then_normal ?_
    refine WX.re (O' := G33 ++ (G4 ++ B)) ?_
    have hG' : Grow 1 a33 (framesB 0 (ys.take (k + 1))).length c33 ((framesB 0 (ys.take (k + 1))).map B8) G33 := by
      rw [htk, List.length_append, List.map_append]; exact hG33
    rw [show (framesB 0 (ys.take k)).length + (frameB (k : Int) (nth ys k)).length = (framesB 0 (ys.take (k + 1))).length from by rw [htk, List.length_append]]
    refine WX.region rfl ?_
    refine WXL.move Met.none rfl ?_
    refine WXL.bin Met.none rfl rfl bvA ?_
    refine WXL.assign Met.none rfl ?_
    refine WXL.nil ?_
    exact Fin.loop_next (k + 1, a33, c33, G33) ⟨by simp only; omega, hG'⟩ (by simp only; omega) (fun s hs => hs.tl [] 0)
  · try simp only [cnd] at hc0
    refine WX.exit ?_
    refine Fin.then_exit ?_
    refine Fin.loop_exit ?_
    refine Fin.block_hit rfl ?_
    refine Fin.then_normal ?_
    refine WX.seq ?_
    refine WX.seq ?_
    have hkk : k = ys.length := by omega
    subst hkk
    have hfk := hfle ys.length
    rw [List.take_length] at hGa hfk
    rw [List.take_length]
    obtain ⟨F, hF⟩ : ∃ F, F = framesB 0 ys := ⟨_, rfl⟩
    rw [← hF] at hGa hfk
    rw [← hF]
    have hFB : Bytes F := hF ▸ framesB_bytes ys 0 fun z hz => (hx2 z hz).1
    refine WX.region rfl ?_
    refine WXL.move Met.none rfl ?_
    refine WXL.len Met.none rfl Try.underlying23 ?_
    refine WXL.bin Met.none rfl rfl rfl ?_
    refine WXL.nil ?_
    refine Fin.then_normal ?_
    refine WX.cond rfl (fun hc1 => ?_) (fun hc1 => ?_)
    · try simp only [cnd] at hc1
      refine WX.region rfl ?_
      refine WXL.move Met.none rfl ?_
      refine WXL.move Met.none rfl ?_
      refine WXL.move Met.none rfl ?_
      refine WXL.len Met.none rfl Try.underlying23 ?_
      refine WXL.cl (O1 := _) Met.none rfl (fnOk_of Try.func19 (by decide +kernel)) rfl (fun _ h => h) (around_ok _ at_ (F.length : Int) hat (by omega)) (fun v O' hp => ?_)
      obtain ⟨rfl, hO⟩ := hp
      subst O'
      have hcr := around_range (n := at_) (m := (F.length : Int)) (by omega)
      obtain ⟨i, hi⟩ : ∃ i : Nat, around at_ (F.length : Int) = i := ⟨(around at_ (F.length : Int)).toNat, by omega⟩
      rw [hi] at hcr ⊢
      rcases hGa with ⟨_, h0, _⟩ | ⟨bb, rfl, rfl, hcl⟩
      · omega
      refine WXL.move Met.none rfl ?_
      have hil : i < F.length := by omega
      first | refine WXL.ix Met.none rfl rfl elem23 sz5 ?_ | refine WXL.ixS Met.none rfl rfl elem23 sz5 ?_
      refine WXL.st (vs := [_]) Met.none rfl rfl rfl sz5 ?_
      refine WXL.nil ?_
      refine Fin.then_normal ?_
      refine WX.seq ?_
      have key : ∃ (T : List Int), T.length = F.length ∧ Bytes T ∧ T.length ≤ 1750 := ⟨F, rfl, hFB, by omega⟩
      clear key
      first
      | (obtain ⟨T, hT⟩ : ∃ T, T = F.set i ch := ⟨_, rfl⟩
         have hTl : F.length = T.length := by rw [hT, List.length_set]
         have hTB : Bytes T := by
           intro x hx
           rw [hT] at hx
           rcases List.mem_or_eq_of_mem_set hx with q | q
           · exact hFB x q
           · rw [q]; exact hch
         have hGT : Grow 1 (some ⟨bb, 0, none⟩) T.length ca (T.map B8) [(bb, ⟨1, false, T.map B8⟩)] := Grow.row (by rw [List.length_map, Nat.mul_one])
         rw [← hT, hTl]
         obtain ⟨aT, haT⟩ : ∃ aT : Option Addr, aT = some ⟨bb, 0, none⟩ := ⟨_, rfl⟩
         refine WX.re (O' := [(bb, ⟨1, false, T.map B8⟩)] ++ (G4 ++ B)) ?_
         obtain ⟨GT, hGTe⟩ : ∃ GT : Objs, GT = [(bb, ⟨1, false, T.map B8⟩)] := ⟨_, rfl⟩
         rw [← haT] at hGT ⊢
         rw [← hGTe] at hGT ⊢
         clear hGTe)
      | (obtain ⟨T, hT⟩ : ∃ T, T = F := ⟨_, rfl⟩
         have hTl : F.length = T.length := by rw [hT]
         have hTB : Bytes T := hT ▸ hFB
         obtain ⟨GT, aT, hGT, hGe, haT⟩ : ∃ GT aT, Grow 1 aT T.length ca (T.map B8) GT ∧ GT = Ga ∧ aT = aa := ⟨Ga, aa, by rw [hT]; exact hGa, rfl, rfl⟩
         rw [← hGe, ← haT, hTl])
      have hTlen : T.length ≤ 1750 := by omega
      obtain ⟨m5, hm5⟩ : ∃ m5, m5 = (raw.take 5).length := ⟨_, rfl⟩
      have hm5l : m5 = min raw.length 5 := by rw [hm5, List.length_take, Nat.min_comm]
      have hr5 := hrB.pre (m := m5) (by omega)
      rw [Nat.mul_one, ← List.map_take, show raw.take m5 = raw.take 5 from by
        rw [hm5l]
        rcases Nat.le_total raw.length 5 with q | q
        · rw [Nat.min_eq_left q, List.take_of_length_le (Nat.le_refl _), List.take_of_length_le q]
        · rw [Nat.min_eq_right q]] at hr5
      have hf5 := frameB_len (i := 1) (x := raw.take 5) (by unfold In64; decide) (by omega)
      refine WX.draw rfl ?_
      refine WXL.move Met.none rfl ?_
      refine WXL.cl (O1 := _) Met.none rfl (fnOk_of Try.func10 (by decide +kernel)) rfl (fun _ h => h) (few_q _ raw ar cr 60 (by decide) hrl (by decide) (Rowy.app (Rowy.app hrB)) kr) (fun v O' hp => ?_)
      obtain ⟨a1, c1, G1, rfl, hG1, rfl⟩ := hp
      obtain ⟨r60, hr60⟩ : ∃ r60, r60 = raw.take (60 : Int).toNat := ⟨_, rfl⟩
      have hr60l : r60.length ≤ 60 := by rw [hr60, List.length_take]; show min 60 _ ≤ 60; omega
      have hr60B : Bytes r60 := hr60 ▸ take_bytes hBr
      rw [← hr60] at hG1 ⊢
      refine WXL.move Met.none rfl ?_
      refine WXL.move Met.none rfl ?_
      refine WXL.move Met.none rfl ?_
      refine WXL.len Met.none rfl Try.underlying23 ?_
      refine WXL.min Met.none rfl rfl ?_
      refine WXL.pre (m := m5) Met.none rfl rfl elem23 sz5 (Rowy.app (Rowy.app (Rowy.app hrB))) kr ?_
      refine WXL.cl (O1 := _) Met.none rfl (fnOk_of Try.func13 (by decide +kernel)) rfl (fun _ h => h) ((by
      have := refFrame_q (G1 ++ (GT ++ (G4 ++ B))) 1 (raw.take 5) ar m5 (by unfold In64; decide) (take_bytes hBr) (by omega) (by rw [← hm5]; exact Src.app (Src.app (Src.app (hr5.src (fun q => hr5.nil0 q)))))
      rw [← hm5] at this
      exact this)) (fun v O' hp => ?_)
      obtain ⟨a5, c5, G5, rfl, hG5, rfl⟩ := hp
      refine WXL.buildSlice (c := [_, _, _]) Met.none rfl elem27 sz23 zero23 (by decide) (by decide) rfl rfl rfl rfl (fun b53 => ?_)
      refine WXL.assign Met.none rfl ?_
      refine WXL.nil ?_
      refine Fin.then_normal ?_
      refine WX.seq ?_
      refine WX.seq ?_
      obtain ⟨f5, hf5e⟩ : ∃ f5, f5 = frameB 1 (raw.take 5) := ⟨_, rfl⟩
      have hf5B : Bytes f5 := hf5e ▸ frameB_bytes (take_bytes hBr)
      rw [← hf5e] at hG5 hf5 ⊢
      obtain ⟨vL, hvL⟩ : ∃ vL : List Value, vL = [.slice a1 r60.length c1, .slice aT T.length ca, .slice a5 f5.length c5] := ⟨_, rfl⟩
      obtain ⟨D, hD⟩ : ∃ D : Objs, D = (b53, ⟨1, false, [.slice a1 r60.length c1, .slice aT T.length ca, .slice a5 f5.length c5]⟩) :: (G5 ++ (G1 ++ (GT ++ (G4 ++ B)))) := ⟨_, rfl⟩
      obtain ⟨aD, haD⟩ : ∃ aD : Option Addr, aD = some ⟨b53, 0, none⟩ := ⟨_, rfl⟩
      have hsD : Src D 1 (.slice aD 3 3) 3 vL := by rw [haD, hD, hvL]; exact Src.row1 rfl
      have hS : ∀ k, k < 3 → ScanRow D (nth vL k) (nth [r60, T, f5] k) := by
        intro k hk
        rw [hD, hvL]
        rcases k with _ | _ | _ | k
        · exact ⟨a1, c1, rfl, Rowy.cons (Rowy.app hG1.rowy), fun q => (hG1.nil0 q).1, hr60B, by show r60.length ≤ _; omega⟩
        · exact ⟨aT, ca, rfl, Rowy.cons (Rowy.app (Rowy.app hGT.rowy)), fun q => (hGT.nil0 q).1, hTB, by show T.length ≤ _; omega⟩
        · exact ⟨a5, c5, rfl, Rowy.cons hG5.rowy, fun q => (hG5.nil0 q).1, hf5B, by show f5.length ≤ _; omega⟩
        · omega
      rw [← hD, show Row b53 0 3 3 = .slice aD 3 3 from by rw [haD]]
      have hvl : vL.length = 3 := by rw [hvL]; rfl
      clear hD hvL haD
      refine WX.region rfl ?_
      refine WXL.assign Met.none rfl ?_
      refine WXL.nil ?_
      refine Fin.then_normal ?_
      refine WX.block ?_
      refine WX.loop (fun k : Nat => [(12, .slice aD 3 3), (13, I (k : Int))]) (fun _ => D) (fun k => k ≤ 3) (fun k => 3 - k) 0 (by decide) (fun s hs => hs.tl [] 0) (fun k hk => ?_)
      refine WX.seq ?_
      refine WX.seq ?_
      refine WX.region rfl ?_
      refine WXL.move Met.none rfl ?_
      refine WXL.bin Met.none rfl rfl rfl ?_
      refine WXL.nil ?_
      refine Fin.then_normal ?_
      refine WX.cond rfl (fun hc2 => ?_) (fun hc2 => ?_)
      · try simp only [cnd] at hc2
        refine WX.skip ?_
        refine Fin.then_normal ?_
        refine WX.seq ?_
        refine WX.block ?_
        refine WX.seq ?_
        have hk3 : k < 3 := by omega
        obtain ⟨a6, c6, e6, hr6, k6, hB6, hl6⟩ := hS k hk3
        obtain ⟨x6, hx6⟩ : ∃ x6, x6 = nth [r60, T, f5] k := ⟨_, rfl⟩
        rw [← hx6] at e6 hr6 hB6 hl6
        have hv6 : vL[k]? = some (.slice a6 x6.length c6) := by rw [← e6]; exact nth_eq (by rw [hvl]; exact hk3)
        have hrlen := recsP_len x6
        refine WX.region rfl ?_
        refine WXL.move Met.none rfl ?_
        refine WXL.move Met.none rfl ?_
        first | refine WXL.ix Met.none rfl rfl elem27 sz23 ?_ | refine WXL.ixS Met.none rfl rfl elem27 sz23 ?_
        first | refine WXL.ld Met.none rfl agg23 ?_ (hv := hv6) | refine WXL.ldS Met.none rfl agg23 ?_ (hv := hv6)
        refine WXL.cl (O1 := _) Met.none rfl (fnOk_of Try.func15 (by decide +kernel)) rfl (fun _ h => h) (scan_ok _ x6 a6 c6 hB6 hl6 hr6 k6) (fun v O' hp => ?_)
        obtain ⟨ag, cg, gs, Gg, Rg, rfl, hGg, hgs, rfl⟩ := hp
        refine WXL.move Met.none rfl ?_
        refine WXL.extract Met.none rfl rfl ?_
        refine WXL.extract Met.none rfl rfl ?_
        refine WXL.assign Met.none rfl ?_
        refine WXL.assign Met.none rfl ?_
        refine WXL.nil ?_
        refine Fin.then_normal ?_
        refine WX.seq ?_
        refine WX.region rfl ?_
        refine WXL.move Met.none rfl ?_
        refine WXL.move Met.none rfl ?_
        first | refine WXL.ix Met.none rfl rfl elem27 sz23 ?_ | refine WXL.ixS Met.none rfl rfl elem27 sz23 ?_
        first | refine WXL.ld Met.none rfl agg23 ?_ (hv := hv6) | refine WXL.ldS Met.none rfl agg23 ?_ (hv := hv6)
        refine WXL.cl (O1 := _) Met.none rfl (fnOk_of Try.func16 (by decide +kernel)) rfl (fun _ h => h) (refScan_ok _ x6 a6 c6 hB6 hl6 (Rowy.app (Rowy.app hr6)) k6) (fun v O' hp => ?_)
        obtain ⟨aw, cw, us, Gw, rfl, hGw, hus, rfl⟩ := hp
        refine WXL.move Met.none rfl ?_
        refine WXL.extract Met.none rfl rfl ?_
        refine WXL.extract Met.none rfl rfl ?_
        refine WXL.assign Met.none rfl ?_
        refine WXL.assign Met.none rfl ?_
        refine WXL.nil ?_
        refine Fin.then_normal ?_
        refine WX.seq ?_
        refine WX.region rfl ?_
        refine WXL.move Met.none rfl ?_
        refine WXL.move Met.none rfl ?_
        refine WXL.bin Met.none rfl rfl rfl ?_
        refine WXL.move Met.none rfl ?_
        refine WXL.split (d := 77) rfl (fun hg77 => ?_) (fun hg77 => ?_)
        · try simp only [cnd] at hg77
          exact (by simp at hg77) --end
        · try simp only [cnd] at hg77
          refine WXL.move (Met.some rfl rfl rfl) rfl ?_
          refine WXL.move (Met.some rfl rfl rfl) rfl ?_
          refine WXL.cl (O1 := _) (Met.some rfl rfl rfl) rfl (fnOk_of Try.func17 (by decide +kernel)) rfl (fun _ h => h) (sameLists_ok _ (recsP x6) (recsP x6) gs us ag aw cg cw (by omega) (fun x hx => by have := recsP_mem hx; omega) (Src.app hGg.src) hGw.src (AreB.app (AreB.app hgs)) (AreB.app hus)) (fun v O' hp => ?_)
          obtain ⟨x1, rfl, hx1', rfl⟩ := hp
          refine WXL.not (Met.some rfl rfl rfl) rfl ?_
          refine WXL.pick_f Met.none rfl rfl ?_
          refine WXL.nil ?_
          refine Fin.then_normal ?_
          refine WX.cond rfl (fun hc3 => ?_) (fun hc3 => ?_)
          · try simp only [cnd] at hc3
            exact (by rw [hc3] at hx1'; simp at hx1') --end
          · try simp only [cnd] at hc3
            refine WX.skip ?_
            refine Fin.block_normal ?_
            refine Fin.then_normal ?_
            refine WX.re (O' := D) ?_
            refine WX.region rfl ?_
            refine WXL.move Met.none rfl ?_
            refine WXL.bin Met.none rfl rfl bvA ?_
            refine WXL.assign Met.none rfl ?_
            refine WXL.nil ?_
            exact Fin.loop_next (k + 1) (by omega) (by omega) (fun s hs => hs.tl [] 0)
      · try simp only [cnd] at hc2
        refine WX.exit ?_
        refine Fin.then_exit ?_
        refine Fin.loop_exit ?_
        refine Fin.block_hit rfl ?_
        refine Fin.then_normal ?_
        refine WX.seq ?_
        refine WX.region rfl ?_
        refine WXL.cl (O1 := _) Met.none rfl (fnOk_of Try.func18 (by decide +kernel)) rfl (fun _ h => h) (lives_ok _) (fun v O' hp => ?_)
        obtain ⟨rfl, hO⟩ := hp
        subst O'
        refine WXL.assign Met.none rfl ?_
        refine WXL.nil ?_
        refine Fin.then_normal ?_
        refine WX.ret ?_
        exact Fin.result (O' := []) (.inr rfl) rfl rfl (fun _ hs => ⟨by simp, fun p hp => by simp at hp, hs.wf⟩) rfl
    · try simp only [cnd] at hc1
      refine WX.skip ?_
      refine Fin.then_normal ?_
      refine WX.seq ?_
      have key : ∃ (T : List Int), T.length = F.length ∧ Bytes T ∧ T.length ≤ 1750 := ⟨F, rfl, hFB, by omega⟩
      clear key
      first
      | (obtain ⟨T, hT⟩ : ∃ T, T = F.set i ch := ⟨_, rfl⟩
         have hTl : F.length = T.length := by rw [hT, List.length_set]
         have hTB : Bytes T := by
           intro x hx
           rw [hT] at hx
           rcases List.mem_or_eq_of_mem_set hx with q | q
           · exact hFB x q
           · rw [q]; exact hch
         have hGT : Grow 1 (some ⟨bb, 0, none⟩) T.length ca (T.map B8) [(bb, ⟨1, false, T.map B8⟩)] := Grow.row (by rw [List.length_map, Nat.mul_one])
         rw [← hT, hTl]
         obtain ⟨aT, haT⟩ : ∃ aT : Option Addr, aT = some ⟨bb, 0, none⟩ := ⟨_, rfl⟩
         refine WX.re (O' := [(bb, ⟨1, false, T.map B8⟩)] ++ (G4 ++ B)) ?_
         obtain ⟨GT, hGTe⟩ : ∃ GT : Objs, GT = [(bb, ⟨1, false, T.map B8⟩)] := ⟨_, rfl⟩
         rw [← haT] at hGT ⊢
         rw [← hGTe] at hGT ⊢
         clear hGTe)
      | (obtain ⟨T, hT⟩ : ∃ T, T = F := ⟨_, rfl⟩
         have hTl : F.length = T.length := by rw [hT]
         have hTB : Bytes T := hT ▸ hFB
         obtain ⟨GT, aT, hGT, hGe, haT⟩ : ∃ GT aT, Grow 1 aT T.length ca (T.map B8) GT ∧ GT = Ga ∧ aT = aa := ⟨Ga, aa, by rw [hT]; exact hGa, rfl, rfl⟩
         rw [← hGe, ← haT, hTl])
      have hTlen : T.length ≤ 1750 := by omega
      obtain ⟨m5, hm5⟩ : ∃ m5, m5 = (raw.take 5).length := ⟨_, rfl⟩
      have hm5l : m5 = min raw.length 5 := by rw [hm5, List.length_take, Nat.min_comm]
      have hr5 := hrB.pre (m := m5) (by omega)
      rw [Nat.mul_one, ← List.map_take, show raw.take m5 = raw.take 5 from by
        rw [hm5l]
        rcases Nat.le_total raw.length 5 with q | q
        · rw [Nat.min_eq_left q, List.take_of_length_le (Nat.le_refl _), List.take_of_length_le q]
        · rw [Nat.min_eq_right q]] at hr5
      have hf5 := frameB_len (i := 1) (x := raw.take 5) (by unfold In64; decide) (by omega)
      refine WX.draw rfl ?_
      refine WXL.move Met.none rfl ?_
      refine WXL.cl (O1 := _) Met.none rfl (fnOk_of Try.func10 (by decide +kernel)) rfl (fun _ h => h) (few_q _ raw ar cr 60 (by decide) hrl (by decide) (Rowy.app (Rowy.app hrB)) kr) (fun v O' hp => ?_)
      obtain ⟨a1, c1, G1, rfl, hG1, rfl⟩ := hp
      obtain ⟨r60, hr60⟩ : ∃ r60, r60 = raw.take (60 : Int).toNat := ⟨_, rfl⟩
      have hr60l : r60.length ≤ 60 := by rw [hr60, List.length_take]; show min 60 _ ≤ 60; omega
      have hr60B : Bytes r60 := hr60 ▸ take_bytes hBr
      rw [← hr60] at hG1 ⊢
      refine WXL.move Met.none rfl ?_
      refine WXL.move Met.none rfl ?_
      refine WXL.move Met.none rfl ?_
      refine WXL.len Met.none rfl Try.underlying23 ?_
      refine WXL.min Met.none rfl rfl ?_
      refine WXL.pre (m := m5) Met.none rfl rfl elem23 sz5 (Rowy.app (Rowy.app (Rowy.app hrB))) kr ?_
      refine WXL.cl (O1 := _) Met.none rfl (fnOk_of Try.func13 (by decide +kernel)) rfl (fun _ h => h) ((by
      have := refFrame_q (G1 ++ (GT ++ (G4 ++ B))) 1 (raw.take 5) ar m5 (by unfold In64; decide) (take_bytes hBr) (by omega) (by rw [← hm5]; exact Src.app (Src.app (Src.app (hr5.src (fun q => hr5.nil0 q)))))
      rw [← hm5] at this
      exact this)) (fun v O' hp => ?_)
      obtain ⟨a5, c5, G5, rfl, hG5, rfl⟩ := hp
      refine WXL.buildSlice (c := [_, _, _]) Met.none rfl elem27 sz23 zero23 (by decide) (by decide) rfl rfl rfl rfl (fun b53 => ?_)
      refine WXL.assign Met.none rfl ?_
      refine WXL.nil ?_
      refine Fin.then_normal ?_
      refine WX.seq ?_
      refine WX.seq ?_
      obtain ⟨f5, hf5e⟩ : ∃ f5, f5 = frameB 1 (raw.take 5) := ⟨_, rfl⟩
      have hf5B : Bytes f5 := hf5e ▸ frameB_bytes (take_bytes hBr)
      rw [← hf5e] at hG5 hf5 ⊢
      obtain ⟨vL, hvL⟩ : ∃ vL : List Value, vL = [.slice a1 r60.length c1, .slice aT T.length ca, .slice a5 f5.length c5] := ⟨_, rfl⟩
      obtain ⟨D, hD⟩ : ∃ D : Objs, D = (b53, ⟨1, false, [.slice a1 r60.length c1, .slice aT T.length ca, .slice a5 f5.length c5]⟩) :: (G5 ++ (G1 ++ (GT ++ (G4 ++ B)))) := ⟨_, rfl⟩
      obtain ⟨aD, haD⟩ : ∃ aD : Option Addr, aD = some ⟨b53, 0, none⟩ := ⟨_, rfl⟩
      have hsD : Src D 1 (.slice aD 3 3) 3 vL := by rw [haD, hD, hvL]; exact Src.row1 rfl
      have hS : ∀ k, k < 3 → ScanRow D (nth vL k) (nth [r60, T, f5] k) := by
        intro k hk
        rw [hD, hvL]
        rcases k with _ | _ | _ | k
        · exact ⟨a1, c1, rfl, Rowy.cons (Rowy.app hG1.rowy), fun q => (hG1.nil0 q).1, hr60B, by show r60.length ≤ _; omega⟩
        · exact ⟨aT, ca, rfl, Rowy.cons (Rowy.app (Rowy.app hGT.rowy)), fun q => (hGT.nil0 q).1, hTB, by show T.length ≤ _; omega⟩
        · exact ⟨a5, c5, rfl, Rowy.cons hG5.rowy, fun q => (hG5.nil0 q).1, hf5B, by show f5.length ≤ _; omega⟩
        · omega
      rw [← hD, show Row b53 0 3 3 = .slice aD 3 3 from by rw [haD]]
      have hvl : vL.length = 3 := by rw [hvL]; rfl
      clear hD hvL haD
      refine WX.region rfl ?_
      refine WXL.assign Met.none rfl ?_
      refine WXL.nil ?_
      refine Fin.then_normal ?_
      refine WX.block ?_
      refine WX.loop (fun k : Nat => [(12, .slice aD 3 3), (13, I (k : Int))]) (fun _ => D) (fun k => k ≤ 3) (fun k => 3 - k) 0 (by decide) (fun s hs => hs.tl [] 0) (fun k hk => ?_)
      refine WX.seq ?_
      refine WX.seq ?_
      refine WX.region rfl ?_
      refine WXL.move Met.none rfl ?_
      refine WXL.bin Met.none rfl rfl rfl ?_
      refine WXL.nil ?_
      refine Fin.then_normal ?_
      refine WX.cond rfl (fun hc2 => ?_) (fun hc2 => ?_)
      · try simp only [cnd] at hc2
        refine WX.skip ?_
        refine Fin.then_normal ?_
        refine WX.seq ?_
        refine WX.block ?_
        refine WX.seq ?_
        have hk3 : k < 3 := by omega
        obtain ⟨a6, c6, e6, hr6, k6, hB6, hl6⟩ := hS k hk3
        obtain ⟨x6, hx6⟩ : ∃ x6, x6 = nth [r60, T, f5] k := ⟨_, rfl⟩
        rw [← hx6] at e6 hr6 hB6 hl6
        have hv6 : vL[k]? = some (.slice a6 x6.length c6) := by rw [← e6]; exact nth_eq (by rw [hvl]; exact hk3)
        have hrlen := recsP_len x6
        refine WX.region rfl ?_
        refine WXL.move Met.none rfl ?_
        refine WXL.move Met.none rfl ?_
        first | refine WXL.ix Met.none rfl rfl elem27 sz23 ?_ | refine WXL.ixS Met.none rfl rfl elem27 sz23 ?_
        first | refine WXL.ld Met.none rfl agg23 ?_ (hv := hv6) | refine WXL.ldS Met.none rfl agg23 ?_ (hv := hv6)
        refine WXL.cl (O1 := _) Met.none rfl (fnOk_of Try.func15 (by decide +kernel)) rfl (fun _ h => h) (scan_ok _ x6 a6 c6 hB6 hl6 hr6 k6) (fun v O' hp => ?_)
        obtain ⟨ag, cg, gs, Gg, Rg, rfl, hGg, hgs, rfl⟩ := hp
        refine WXL.move Met.none rfl ?_
        refine WXL.extract Met.none rfl rfl ?_
        refine WXL.extract Met.none rfl rfl ?_
        refine WXL.assign Met.none rfl ?_
        refine WXL.assign Met.none rfl ?_
        refine WXL.nil ?_
        refine Fin.then_normal ?_
        refine WX.seq ?_
        refine WX.region rfl ?_
        refine WXL.move Met.none rfl ?_
        refine WXL.move Met.none rfl ?_
        first | refine WXL.ix Met.none rfl rfl elem27 sz23 ?_ | refine WXL.ixS Met.none rfl rfl elem27 sz23 ?_
        first | refine WXL.ld Met.none rfl agg23 ?_ (hv := hv6) | refine WXL.ldS Met.none rfl agg23 ?_ (hv := hv6)
        refine WXL.cl (O1 := _) Met.none rfl (fnOk_of Try.func16 (by decide +kernel)) rfl (fun _ h => h) (refScan_ok _ x6 a6 c6 hB6 hl6 (Rowy.app (Rowy.app hr6)) k6) (fun v O' hp => ?_)
        obtain ⟨aw, cw, us, Gw, rfl, hGw, hus, rfl⟩ := hp
        refine WXL.move Met.none rfl ?_
        refine WXL.extract Met.none rfl rfl ?_
        refine WXL.extract Met.none rfl rfl ?_
        refine WXL.assign Met.none rfl ?_
        refine WXL.assign Met.none rfl ?_
        refine WXL.nil ?_
        refine Fin.then_normal ?_
        refine WX.seq ?_
        refine WX.region rfl ?_
        refine WXL.move Met.none rfl ?_
        refine WXL.move Met.none rfl ?_
        refine WXL.bin Met.none rfl rfl rfl ?_
        refine WXL.move Met.none rfl ?_
        refine WXL.split (d := 77) rfl (fun hg77 => ?_) (fun hg77 => ?_)
        · try simp only [cnd] at hg77
          exact (by simp at hg77) --end
        · try simp only [cnd] at hg77
          refine WXL.move (Met.some rfl rfl rfl) rfl ?_
          refine WXL.move (Met.some rfl rfl rfl) rfl ?_
          refine WXL.cl (O1 := _) (Met.some rfl rfl rfl) rfl (fnOk_of Try.func17 (by decide +kernel)) rfl (fun _ h => h) (sameLists_ok _ (recsP x6) (recsP x6) gs us ag aw cg cw (by omega) (fun x hx => by have := recsP_mem hx; omega) (Src.app hGg.src) hGw.src (AreB.app (AreB.app hgs)) (AreB.app hus)) (fun v O' hp => ?_)
          obtain ⟨x1, rfl, hx1', rfl⟩ := hp
          refine WXL.not (Met.some rfl rfl rfl) rfl ?_
          refine WXL.pick_f Met.none rfl rfl ?_
          refine WXL.nil ?_
          refine Fin.then_normal ?_
          refine WX.cond rfl (fun hc3 => ?_) (fun hc3 => ?_)
          · try simp only [cnd] at hc3
            exact (by rw [hc3] at hx1'; simp at hx1') --end
          · try simp only [cnd] at hc3
            refine WX.skip ?_
            refine Fin.block_normal ?_
            refine Fin.then_normal ?_
            refine WX.re (O' := D) ?_
            refine WX.region rfl ?_
            refine WXL.move Met.none rfl ?_
            refine WXL.bin Met.none rfl rfl bvA ?_
            refine WXL.assign Met.none rfl ?_
            refine WXL.nil ?_
            exact Fin.loop_next (k + 1) (by omega) (by omega) (fun s hs => hs.tl [] 0)
      · try simp only [cnd] at hc2
        refine WX.exit ?_
        refine Fin.then_exit ?_
        refine Fin.loop_exit ?_
        refine Fin.block_hit rfl ?_
        refine Fin.then_normal ?_
        refine WX.seq ?_
        refine WX.region rfl ?_
        refine WXL.cl (O1 := _) Met.none rfl (fnOk_of Try.func18 (by decide +kernel)) rfl (fun _ h => h) (lives_ok _) (fun v O' hp => ?_)
        obtain ⟨rfl, hO⟩ := hp
        subst O'
        refine WXL.assign Met.none rfl ?_
        refine WXL.nil ?_
        refine Fin.then_normal ?_
        refine WX.ret ?_
        exact Fin.result (O' := []) (.inr rfl) rfl rfl (fun _ hs => ⟨by simp, fun p hp => by simp at hp, hs.wf⟩) rfl

end Go.Proofs.Ythekokdpplobhaa.Eng

set_option linter.unusedVariables false
set_option linter.unusedSimpArgs false
set_option maxRecDepth 4000
namespace Go.Proofs.Ythekokdpplobhaa.Eng

/-- What is known of the objects is told anew in the middle of a region. -/
theorem WXL.re {P : Program} {x : Cx} {ops : Array Oper} {mq : Mk} {i : Nat} {l : List Oper} {L : Tmps} {O O' : Objs} {K : ASt → Prop} (h : WXL P x ops mq i l L O' K) (hs : ∀ g, Sat g O → Sat g O' := by exact sub_) (hq : x.q = false := by exact rfl) : WXL P x ops mq i l L O K :=
  fun a b s hst hz => h a b s ⟨hst.m, hst.t, hs _ hst.sat, fun q => by rw [hq] at q; cases q⟩ hz

/-- A file: its bytes, how many of them are durable. -/
structure Fi where
  bs : List Int
  d : Int

def FileOk (R : Objs) (v : Value) (f : Fi) : Prop := ∃ a c, v = fileV a f.bs.length c f.d ∧ Rowy R 1 a f.bs.length (f.bs.map B8) ∧ (a = none → c = 0) ∧ Bytes f.bs

inductive FRel (R : Objs) : List (Int × Value) → List (Int × Fi) → Prop
  | nil : FRel R [] []
  | cons {k v f m fs} : FileOk R v f → FRel R m fs → FRel R ((k, v) :: m) ((k, f) :: fs)

def used : List (Int × Fi) → Int
  | [] => 0
  | e :: l => (e.2.bs.length : Int) + used l

theorem used_nn : ∀ fs, 0 ≤ used fs
  | [] => Int.le_refl _
  | e :: l => by
    have := used_nn l
    unfold used
    omega

variable {R : Objs}

theorem FileOk.app {N : Objs} {v : Value} {f : Fi} (h : FileOk R v f) : FileOk (N ++ R) v f := by
  obtain ⟨a, c, h1, h2, h3⟩ := h
  exact ⟨a, c, h1, h2.app, h3⟩
theorem FRel.app {N : Objs} {m : List (Int × Value)} {fs : List (Int × Fi)} (h : FRel R m fs) : FRel (N ++ R) m fs := by
  induction h with
  | nil => exact .nil
  | cons h1 _ ih => exact .cons h1.app ih

theorem FRel.get {m : List (Int × Value)} {fs : List (Int × Fi)} (h : FRel R m fs) (k : Int) : (mget k m = none ∧ mget k fs = none) ∨ ∃ v f, mget k m = some v ∧ mget k fs = some f ∧ FileOk R v f := by
  induction h with
  | nil => exact .inl ⟨rfl, rfl⟩
  | @cons k' v f m fs h1 _ ih =>
    simp only [mget]
    by_cases q : k = k'
    · rw [if_pos q, if_pos q]; exact .inr ⟨v, f, rfl, rfl, h1⟩
    · rw [if_neg q, if_neg q]; exact ih

theorem FRel.put {m : List (Int × Value)} {fs : List (Int × Fi)} (h : FRel R m fs) (k : Int) {v : Value} {f : Fi} (hv : FileOk R v f) : FRel R (mput k v m) (mput k f fs) := by
  induction h with
  | nil => exact .cons hv .nil
  | @cons k' v' f' m fs h1 h2 ih =>
    simp only [mput]
    by_cases q : k = k'
    · rw [if_pos q, if_pos q]; exact .cons hv h2
    · rw [if_neg q, if_neg q]; exact .cons h1 ih

theorem FRel.del {m : List (Int × Value)} {fs : List (Int × Fi)} (h : FRel R m fs) (k : Int) : FRel R (mdel k m) (mdel k fs) := by
  induction h with
  | nil => exact .nil
  | @cons k' v' f' m fs h1 h2 ih =>
    simp only [mdel]
    by_cases q : k = k'
    · rw [if_pos q, if_pos q]; exact h2
    · rw [if_neg q, if_neg q]; exact .cons h1 ih

theorem FRel.keys {m : List (Int × Value)} {fs : List (Int × Fi)} (h : FRel R m fs) : m.map (·.1) = fs.map (·.1) := by
  induction h with
  | nil => rfl
  | cons _ _ ih => rw [List.map_cons, List.map_cons, ih]

def Fi.hard (f : Fi) : Fi := ⟨f.bs, f.bs.length⟩
def hardAll (fs : List (Int × Fi)) : List (Int × Fi) := fs.map fun e => (e.1, e.2.hard)

theorem FRel.hard {m : List (Int × Value)} {fs : List (Int × Fi)} (h : FRel R m fs) : FRel R (m.map fun e => (e.1, Eng.hard e.2)) (hardAll fs) := by
  induction h with
  | nil => exact .nil
  | cons h1 _ ih =>
    obtain ⟨a, c, rfl, h2, h3⟩ := h1
    exact .cons ⟨a, c, rfl, h2, h3⟩ ih

theorem MapX.hard_kv (mx : MapX) : mx.hard.kv = mx.kv.map fun e => (e.1, Eng.hard e.2) := by
  unfold MapX.hard MapX.kv
  simp only [List.map_map]
  rfl

theorem FRel.file {m : List (Int × Value)} {fs : List (Int × Fi)} (h : FRel R m fs) : ∀ e ∈ m, IsFile e.2 := by
  induction h with
  | nil => intro e he; simp at he
  | cons h1 _ ih =>
    intro e he
    rcases List.mem_cons.1 he with rfl | he
    · obtain ⟨a, c, h2, _⟩ := h1; exact ⟨a, _, c, _, h2⟩
    · exact ih e he

theorem FRel.lens {mx : MapX} {fs : List (Int × Fi)} (h : FRel R mx.kv fs) : Eng.lens mx.es = used fs := by
  obtain ⟨ck, es⟩ := mx
  unfold MapX.kv at h
  simp only at h ⊢
  induction es generalizing fs with
  | nil => cases h; rfl
  | cons e es ih =>
    rw [List.map_cons] at h
    cases h with
    | cons h1 h2 =>
      obtain ⟨a, c, h3, _⟩ := h1
      simp only [Eng.lens, used]
      rw [ih h2, h3, flen_file]

theorem isfile_es {mx : MapX} (h : ∀ e ∈ mx.kv, IsFile e.2) : ∀ e ∈ mx.es, IsFile e.2.2 := fun e he => h (e.1, e.2.2) (List.mem_map.2 ⟨e, he, rfl⟩)
theorem keys_es (mx : MapX) : mx.es.map (·.1) = mx.kv.map (·.1) := by
  unfold MapX.kv
  rw [List.map_map]; rfl

/-! ### Keys -/
theorem mput_mem {α : Type} {k : Int} {u : α} {x : Int} : ∀ {m : List (Int × α)}, x ∈ (mput k u m).map (·.1) → x = k ∨ x ∈ m.map (·.1)
  | [], h => by simp [mput] at h; exact .inl h
  | (n, v) :: m, h => by
    simp only [mput] at h
    split at h
    · rename_i q
      simp only [List.map_cons, List.mem_cons] at h ⊢
      rcases h with h | h
      · exact .inl h
      · exact .inr (.inr h)
    · simp only [List.map_cons, List.mem_cons] at h ⊢
      rcases h with h | h
      · exact .inr (.inl h)
      · exact (mput_mem h).imp id .inr

theorem mput_nd {α : Type} {k : Int} {u : α} : ∀ {m : List (Int × α)}, (m.map (·.1)).Nodup → ((mput k u m).map (·.1)).Nodup
  | [], _ => by simp [mput]
  | (n, v) :: m, h => by
    simp only [List.map_cons, List.nodup_cons] at h
    simp only [mput]
    split
    · rename_i q
      subst q
      simp only [List.map_cons, List.nodup_cons]
      exact h
    · rename_i q
      simp only [List.map_cons, List.nodup_cons]
      refine ⟨fun hm => ?_, mput_nd h.2⟩
      rcases mput_mem hm with e | e
      · exact q e.symm
      · exact h.1 e

theorem mdel_sub {α : Type} {k : Int} : ∀ {m : List (Int × α)}, (mdel k m).Sublist m
  | [] => List.Sublist.slnil
  | (n, v) :: m => by
    simp only [mdel]
    split
    · exact List.sublist_cons_self _ _
    · exact mdel_sub.cons_cons _

theorem mdel_nd {α : Type} {k : Int} {m : List (Int × α)} (h : (m.map (·.1)).Nodup) : ((mdel k m).map (·.1)).Nodup := (mdel_sub.map _).nodup h

/-- A disk's map is these files. -/
structure DI (R : Objs) (mx : MapX) (fs : List (Int × Fi)) : Prop where
  rel : FRel R mx.kv fs
  nd : (fs.map (·.1)).Nodup

theorem DI.app {N : Objs} {mx : MapX} {fs : List (Int × Fi)} (h : DI R mx fs) : DI (N ++ R) mx fs := ⟨h.rel.app, h.nd⟩

def setF (fs : List (Int × Fi)) (k : Int) (f : Fi) : List (Int × Fi) := if f.bs = [] then mdel k (mput k f fs) else mput k f fs
def setX (mx : MapX) (k : Int) (v : Value) (n : Nat) : MapX := if n = 0 then (mx.put k v).del k else mx.put k v

theorem DI.set {mx : MapX} {fs : List (Int × Fi)} (h : DI R mx fs) (k : Int) {v : Value} {f : Fi} (hv : FileOk R v f) : DI R (setX mx k v f.bs.length) (setF fs k f) := by
  unfold setX setF
  by_cases q : f.bs = []
  · rw [if_pos (by rw [q]; rfl), if_pos q]
    refine ⟨?_, mdel_nd (mput_nd h.nd)⟩
    rw [MapX.kv_del, MapX.kv_put]
    exact (h.rel.put k hv).del k
  · rw [if_neg (fun e => q (List.length_eq_zero_iff.1 e)), if_neg q]
    refine ⟨?_, mput_nd h.nd⟩
    rw [MapX.kv_put]
    exact h.rel.put k hv

theorem DI.hard {mx : MapX} {fs : List (Int × Fi)} (h : DI R mx fs) : DI R mx.hard (hardAll fs) := ⟨by rw [MapX.hard_kv]; exact h.rel.hard, by
  unfold hardAll
  rw [List.map_map]
  exact h.nd⟩

/-- What a file that is not there reads as. -/
def getF (fs : List (Int × Fi)) (k : Int) : Fi := (mget k fs).getD ⟨[], 0⟩
theorem DI.get {mx : MapX} {fs : List (Int × Fi)} (h : DI R mx fs) (k : Int) : FileOk R ((mget k mx.kv).getD (fileV none 0 0 0)) (getF fs k) := by
  unfold getF
  rcases h.rel.get k with ⟨h1, h2⟩ | ⟨v, f, h1, h2, h3⟩
  · rw [h1, h2]; exact ⟨none, 0, rfl, .inl ⟨rfl, rfl, rfl⟩, fun _ => rfl, fun x hx => by simp at hx⟩
  · rw [h1, h2]; exact h3

theorem DI.new : DI R MapX.new [] := ⟨.nil, by simp⟩

theorem Rowy.inc {R0 : Objs} {sz : Nat} {a : Option Addr} {n : Nat} {cs : List Value} (h : Rowy R0 sz a n cs) (hi : ∀ g, Sat g R → Sat g R0) : Rowy R sz a n cs := by
  rcases h with h | ⟨b, off, y, h1, h2, h3⟩
  · exact .inl h
  · exact .inr ⟨b, off, y, h1, fun g hg => h2 g (hi g hg), h3⟩

/-! ### Disks -/
structure Dk where
  room : Int
  off : Bool
  armed : Bool
  left : Int
  fs : List (Int × Fi)

/-- A step: does it succeed, and the disk then. -/
def stepD (D : Dk) : Bool × Dk :=
  if D.armed = false then (true, D)
  else if D.left - 1 < 0 then (false, { D with off := true, armed := false, left := D.left - 1 })
  else (!D.off, { D with left := D.left - 1 })

def readD (D : Dk) (n : Int) : List Int × Int :=
  if ¬ (0 ≤ n ∧ n < 64) then ([], 1) else if D.off = true then ([], 23) else ((getF D.fs n).bs, 0)

def appD1 (D : Dk) (n : Int) (b : List Int) : Dk := { D with fs := setF D.fs n ⟨(getF D.fs n).bs ++ b, (getF D.fs n).d⟩ }
def appendD (D : Dk) (n : Int) (b : List Int) : Int × Dk :=
  if ¬ (0 ≤ n ∧ n < 64) then (1, D) else if D.off = true then (23, D) else if (b.length : Int) > D.room - used D.fs then (22, D)
  else (if (stepD (appD1 D n b)).1 = true then 0 else 23, (stepD (appD1 D n b)).2)

def syncD (D : Dk) : Int × Dk :=
  if D.off = true then (23, D) else if (stepD D).1 = false then (23, (stepD D).2) else (0, { (stepD D).2 with fs := hardAll (stepD D).2.fs })

def truncD (D : Dk) (n size : Int) : Int × Dk :=
  if ¬ (0 ≤ n ∧ n < 64) ∨ size < 0 ∨ size > ((getF D.fs n).bs.length : Int) then (1, D)
  else if D.off = true then (23, D) else if (stepD D).1 = false then (23, (stepD D).2)
  else (0, { (stepD D).2 with fs := setF D.fs n ⟨(getF D.fs n).bs.take size.toNat, min (getF D.fs n).d size⟩ })

/-- A disk among the objects: its two own ones, and behind them all else. -/
abbrev dkO (d bm : Nat) (D : Dk) (mx : MapX) (R : Objs) : Objs := (d, ⟨0, false, dObj bm D.room D.off D.armed D.left⟩) :: (bm, ⟨2, false, mcells mx⟩) :: R

structure DkI (R : Objs) (D : Dk) (mx : MapX) : Prop where
  di : DI R mx D.fs
  room : 0 ≤ D.room ∧ D.room ≤ 16777216
  left : D.armed = true → 0 ≤ D.left ∧ D.left < 9223372036854775808
  used : used D.fs ≤ D.room

theorem stepD_fs (D : Dk) : (stepD D).2.fs = D.fs ∧ (stepD D).2.room = D.room := by
  unfold stepD
  split
  · exact ⟨rfl, rfl⟩
  · split <;> exact ⟨rfl, rfl⟩

theorem stepD_left {D : Dk} (h : D.armed = true → 0 ≤ D.left ∧ D.left < 9223372036854775808) : (stepD D).2.armed = true → 0 ≤ (stepD D).2.left ∧ (stepD D).2.left < 9223372036854775808 := by
  unfold stepD
  split
  · exact h
  · rename_i q
    split
    · intro q2; simp at q2
    · intro q2
      have := h (by simpa using q)
      simp only
      omega

theorem DkI.step {D : Dk} {mx : MapX} (h : DkI R D mx) : DkI R (stepD D).2 mx := by
  obtain ⟨h1, h2⟩ := stepD_fs D
  exact ⟨by rw [h1]; exact h.di, by rw [h2]; exact h.room, stepD_left h.left, by rw [h1, h2]; exact h.used⟩

theorem DkI.app {N : Objs} {D : Dk} {mx : MapX} (h : DkI R D mx) : DkI (N ++ R) D mx := ⟨h.di.app, h.room, h.left, h.used⟩
theorem DI.cons {q : Nat × Ent} {mx : MapX} {fs : List (Int × Fi)} (h : DI R mx fs) : DI (q :: R) mx fs := h.app (N := [q])
theorem DkI.cons {q : Nat × Ent} {D : Dk} {mx : MapX} (h : DkI R D mx) : DkI (q :: R) D mx := h.app (N := [q])

theorem used_hard : ∀ fs, used (hardAll fs) = used fs
  | [] => rfl
  | e :: l => by
    have := used_hard l
    unfold hardAll at this ⊢
    simp only [List.map_cons, used, this]
    rfl

theorem DkI.hard {D : Dk} {mx : MapX} (h : DkI R D mx) : DkI R { D with fs := hardAll D.fs } mx.hard := ⟨h.di.hard, h.room, h.left, by simp only [used_hard]; exact h.used⟩

/-! What a change of one file does to the sum. -/
theorem used_get : ∀ (fs : List (Int × Fi)) (k : Int), ((getF fs k).bs.length : Int) ≤ used fs
  | [], k => Int.le_refl _
  | e :: l, k => by
    have h1 := used_get l k
    have h2 := used_nn l
    unfold getF at h1 ⊢
    obtain ⟨n, f⟩ := e
    simp only [mget, used]
    split
    · simp only [Option.getD_some]; omega
    · omega

theorem used_put : ∀ (fs : List (Int × Fi)) (k : Int) (f : Fi), used (mput k f fs) = used fs - (getF fs k).bs.length + f.bs.length
  | [], k, f => by
    show (f.bs.length : Int) + 0 = 0 - (0 : Nat) + f.bs.length
    omega
  | (n, v) :: l, k, f => by
    have h1 := used_put l k f
    unfold getF at h1 ⊢
    simp only [mput, mget]
    by_cases q : k = n
    · rw [if_pos q, if_pos q]
      simp only [used, Option.getD_some]
      omega
    · rw [if_neg q, if_neg q]
      simp only [used]
      omega

theorem get_put {fs : List (Int × Fi)} {k : Int} {f : Fi} : getF (mput k f fs) k = f := by
  unfold getF
  induction fs with
  | nil => simp [mput, mget]
  | cons e l ih =>
    obtain ⟨n, v⟩ := e
    simp only [mput]
    by_cases q : k = n
    · rw [if_pos q]; simp [mget]
    · rw [if_neg q]; simp only [mget]; rw [if_neg q]; exact ih

theorem used_del : ∀ (fs : List (Int × Fi)) (k : Int), used (mdel k fs) = used fs - (getF fs k).bs.length
  | [], k => rfl
  | (n, v) :: l, k => by
    have h1 := used_del l k
    unfold getF at h1 ⊢
    simp only [mdel, mget]
    by_cases q : k = n
    · rw [if_pos q, if_pos q]
      simp only [used, Option.getD_some]
      omega
    · rw [if_neg q, if_neg q]
      simp only [used]
      omega

theorem used_set (fs : List (Int × Fi)) (k : Int) (f : Fi) : used (setF fs k f) = used fs - (getF fs k).bs.length + f.bs.length := by
  unfold setF
  split
  · rename_i q
    rw [used_del, used_put, get_put, q]
    simp
  · exact used_put fs k f

theorem DkI.get_len {D : Dk} {mx : MapX} (h : DkI R D mx) (k : Int) : (getF D.fs k).bs.length ≤ 16777216 := by
  have h1 := used_get D.fs k
  have h2 := h.used
  have h3 := h.room
  omega

theorem DkI.set {D : Dk} {mx : MapX} (h : DkI R D mx) (k : Int) {v : Value} {f : Fi} (hv : FileOk R v f) (hu : Eng.used D.fs - (getF D.fs k).bs.length + f.bs.length ≤ D.room) : DkI R { D with fs := setF D.fs k f } (setX mx k v f.bs.length) :=
  ⟨h.di.set k hv, h.room, h.left, by simp only [used_set]; exact hu⟩

theorem DkI.lens {D : Dk} {mx : MapX} (h : DkI R D mx) : Eng.lens mx.es = Eng.used D.fs := h.di.rel.lens
theorem DkI.files {D : Dk} {mx : MapX} (h : DkI R D mx) : ∀ e ∈ mx.es, IsFile e.2.2 := isfile_es h.di.rel.file
theorem DkI.keys {D : Dk} {mx : MapX} (h : DkI R D mx) : (mx.es.map (·.1)).Nodup := by rw [keys_es, h.di.rel.keys]; exact h.di.nd

end Go.Proofs.Ythekokdpplobhaa.Eng

set_option linter.unusedVariables false
set_option linter.unusedSimpArgs false
namespace Go.Proofs.Ythekokdpplobhaa.Eng

theorem exists_ok (O : Objs) (n : Int) : Spec Try.prog false 57 #[I n] O fun v O' => v = .bool (decide (0 ≤ n ∧ n < 64)) ∧ O' = O := by
  refine Spec.enter (args := [_]) (m := 9) Try.func57 rfl rfl (by decide +kernel) fun h0 => ?_
  refine WX.seq ?_
  refine WX.region rfl ?_
  refine WXL.assign Met.none rfl ?_
  refine WXL.nil ?_
  refine Fin.then_normal ?_
  refine WX.seq ?_
  refine WX.region rfl ?_
  refine WXL.move Met.none rfl ?_
  refine WXL.bin Met.none rfl rfl rfl ?_
  refine WXL.move Met.none rfl ?_
  refine WXL.split (d := 5) rfl (fun hg5 => ?_) (fun hg5 => ?_)
  · try simp only [cnd] at hg5
    refine WXL.move (Met.some rfl rfl rfl) rfl ?_
    refine WXL.bin (Met.some rfl rfl rfl) rfl rfl rfl ?_
    refine WXL.pick_t Met.none rfl rfl ?_
    refine WXL.assign Met.none rfl ?_
    refine WXL.nil ?_
    refine Fin.then_normal ?_
    refine WX.ret ?_
    exact Fin.result (O' := O) (.inr rfl) rfl rfl drop_ ⟨bl_, rfl⟩
  · try simp only [cnd] at hg5
    refine WXL.miss (j := 2) (d := 5) rfl rfl rfl ?_
    refine WXL.miss (j := 2) (d := 5) rfl rfl rfl ?_
    refine WXL.pick_f Met.none rfl rfl ?_
    refine WXL.assign Met.none rfl ?_
    refine WXL.nil ?_
    refine Fin.then_normal ?_
    refine WX.ret ?_
    exact Fin.result (O' := O) (.inr rfl) rfl rfl drop_ ⟨bl_, rfl⟩

theorem step_ok (R : Objs) (d bm : Nat) (D : Dk) (mx : MapX) (hl : D.armed = true → 0 ≤ D.left ∧ D.left < 9223372036854775808) :
    Spec Try.prog false 59 #[Ptr d 0] (dkO d bm D mx R) fun v O' => v = .bool (stepD D).1 ∧ O' = dkO d bm (stepD D).2 mx R := by
  refine Spec.enter (args := [_]) (m := 31) Try.func59 rfl rfl (by decide +kernel) fun h0 => ?_
  refine WX.seq ?_
  refine WX.region rfl ?_
  refine WXL.assign Met.none rfl ?_
  refine WXL.nil ?_
  refine Fin.then_normal ?_
  refine WX.seq ?_
  refine WX.seq ?_
  refine WX.region rfl ?_
  refine WXL.move Met.none rfl ?_
  refine WXL.nilCheck Met.none rfl ?_
  first | refine WXL.fieldAddr Met.none rfl Try.underlying92 rfl sz4 rfl ?_ | refine WXL.faS Met.none rfl Try.underlying92 rfl sz4 ?_
  first | refine WXL.ld Met.none rfl agg4 ?_ | refine WXL.ldS Met.none rfl agg4 ?_
  refine WXL.not Met.none rfl ?_
  refine WXL.nil ?_
  refine Fin.then_normal ?_
  refine WX.cond rfl (fun hc0 => ?_) (fun hc0 => ?_)
  · try simp only [cnd] at hc0
    refine WX.seq ?_
    refine WX.region rfl ?_
    refine WXL.assign Met.none rfl ?_
    refine WXL.nil ?_
    refine Fin.then_normal ?_
    refine WX.ret ?_
    refine Fin.then_ret ?_
    first
    | exact Fin.result (O' := dkO d bm D mx R) (.inr rfl) rfl rfl drop_ (by unfold stepD; rw [if_pos (by simpa using hc0)]; exact ⟨rfl, rfl⟩)
    | exact Fin.result (O' := dkO d bm { D with off := true, armed := false, left := D.left - 1 } mx R) (.inr rfl) rfl rfl drop_ (by unfold stepD; rw [if_neg (by rw [ha]; simp), if_pos (by omega)]; exact ⟨rfl, rfl⟩)
    | exact Fin.result (O' := dkO d bm { D with left := D.left - 1 } mx R) (.inr rfl) rfl rfl drop_ (by unfold stepD; rw [if_neg (by rw [ha]; simp), if_neg (by omega)]; exact ⟨rfl, rfl⟩)
  · try simp only [cnd] at hc0
    have ha : D.armed = true := by simpa using hc0
    have hl := hl ha
    refine WX.skip ?_
    refine Fin.then_normal ?_
    refine WX.seq ?_
    refine WX.region rfl ?_
    refine WXL.move Met.none rfl ?_
    refine WXL.nilCheck Met.none rfl ?_
    first | refine WXL.fieldAddr Met.none rfl Try.underlying92 rfl sz3 rfl ?_ | refine WXL.faS Met.none rfl Try.underlying92 rfl sz3 ?_
    first | refine WXL.ld Met.none rfl agg3 ?_ | refine WXL.ldS Met.none rfl agg3 ?_
    refine WXL.bin Met.none rfl rfl bvS ?_
    refine WXL.nilCheck Met.none rfl ?_
    first | refine WXL.fieldAddr Met.none rfl Try.underlying92 rfl sz3 rfl ?_ | refine WXL.faS Met.none rfl Try.underlying92 rfl sz3 ?_
    refine WXL.st (vs := [_]) (j := 0) Met.none rfl rfl rfl sz3 ?_ (hj := rfl)
    refine WXL.nil ?_
    refine Fin.then_normal ?_
    refine WX.seq ?_
    refine WX.seq ?_
    refine WX.region rfl ?_
    refine WXL.move Met.none rfl ?_
    refine WXL.nilCheck Met.none rfl ?_
    first | refine WXL.fieldAddr Met.none rfl Try.underlying92 rfl sz3 rfl ?_ | refine WXL.faS Met.none rfl Try.underlying92 rfl sz3 ?_
    first | refine WXL.ld Met.none rfl agg3 ?_ | refine WXL.ldS Met.none rfl agg3 ?_
    refine WXL.bin Met.none rfl rfl rfl ?_
    refine WXL.nil ?_
    refine Fin.then_normal ?_
    refine WX.cond rfl (fun hc1 => ?_) (fun hc1 => ?_)
    · try simp only [cnd] at hc1
      refine WX.region rfl ?_
      refine WXL.move Met.none rfl ?_
      refine WXL.move Met.none rfl ?_
      refine WXL.nilCheck Met.none rfl ?_
      first | refine WXL.fieldAddr Met.none rfl Try.underlying92 rfl sz4 rfl ?_ | refine WXL.faS Met.none rfl Try.underlying92 rfl sz4 ?_
      refine WXL.st (vs := [_]) (j := 0) Met.none rfl rfl rfl sz4 ?_ (hj := rfl)
      refine WXL.nilCheck Met.none rfl ?_
      first | refine WXL.fieldAddr Met.none rfl Try.underlying92 rfl sz4 rfl ?_ | refine WXL.faS Met.none rfl Try.underlying92 rfl sz4 ?_
      refine WXL.st (vs := [_]) (j := 0) Met.none rfl rfl rfl sz4 ?_ (hj := rfl)
      refine WXL.nil ?_
      refine Fin.then_normal ?_
      refine WX.seq ?_
      refine WX.region rfl ?_
      refine WXL.move Met.none rfl ?_
      refine WXL.nilCheck Met.none rfl ?_
      first | refine WXL.fieldAddr Met.none rfl Try.underlying92 rfl sz4 rfl ?_ | refine WXL.faS Met.none rfl Try.underlying92 rfl sz4 ?_
      first | refine WXL.ld Met.none rfl agg4 ?_ | refine WXL.ldS Met.none rfl agg4 ?_
      refine WXL.not Met.none rfl ?_
      refine WXL.assign Met.none rfl ?_
      refine WXL.nil ?_
      refine Fin.then_normal ?_
      refine WX.ret ?_
      first
      | exact Fin.result (O' := dkO d bm D mx R) (.inr rfl) rfl rfl drop_ (by unfold stepD; rw [if_pos (by simpa using hc0)]; exact ⟨rfl, rfl⟩)
      | exact Fin.result (O' := dkO d bm { D with off := true, armed := false, left := D.left - 1 } mx R) (.inr rfl) rfl rfl drop_ (by unfold stepD; rw [if_neg (by rw [ha]; simp), if_pos (by omega)]; exact ⟨rfl, rfl⟩)
      | exact Fin.result (O' := dkO d bm { D with left := D.left - 1 } mx R) (.inr rfl) rfl rfl drop_ (by unfold stepD; rw [if_neg (by rw [ha]; simp), if_neg (by omega)]; exact ⟨rfl, rfl⟩)
    · try simp only [cnd] at hc1
      refine WX.skip ?_
      refine Fin.then_normal ?_
      refine WX.seq ?_
      refine WX.region rfl ?_
      refine WXL.move Met.none rfl ?_
      refine WXL.nilCheck Met.none rfl ?_
      first | refine WXL.fieldAddr Met.none rfl Try.underlying92 rfl sz4 rfl ?_ | refine WXL.faS Met.none rfl Try.underlying92 rfl sz4 ?_
      first | refine WXL.ld Met.none rfl agg4 ?_ | refine WXL.ldS Met.none rfl agg4 ?_
      refine WXL.not Met.none rfl ?_
      refine WXL.assign Met.none rfl ?_
      refine WXL.nil ?_
      refine Fin.then_normal ?_
      refine WX.ret ?_
      first
      | exact Fin.result (O' := dkO d bm D mx R) (.inr rfl) rfl rfl drop_ (by unfold stepD; rw [if_pos (by simpa using hc0)]; exact ⟨rfl, rfl⟩)
      | exact Fin.result (O' := dkO d bm { D with off := true, armed := false, left := D.left - 1 } mx R) (.inr rfl) rfl rfl drop_ (by unfold stepD; rw [if_neg (by rw [ha]; simp), if_pos (by omega)]; exact ⟨rfl, rfl⟩)
      | exact Fin.result (O' := dkO d bm { D with left := D.left - 1 } mx R) (.inr rfl) rfl rfl drop_ (by unfold stepD; rw [if_neg (by rw [ha]; simp), if_neg (by omega)]; exact ⟨rfl, rfl⟩)

theorem set_ok (R : Objs) (d bm : Nat) (D : Dk) (mx : MapX) (n : Int) (a : Option Addr) (m c : Nat) (t : Int) :
    Spec Try.prog false 58 #[Ptr d 0, I n, fileV a m c t] (dkO d bm D mx R) fun v O' => O' = dkO d bm D (setX mx n (fileV a m c t) m) R := by
  refine Spec.enter (args := [_, _, _]) (m := 21) Try.func58 rfl rfl (by decide +kernel) fun h0 => ?_
  refine WX.seq ?_
  refine WX.region rfl ?_
  refine WXL.box (c := [_, _]) Met.none rfl rfl rfl (fun b5 => ?_)
  refine WXL.nil ?_
  refine Fin.then_normal ?_
  refine WX.seq ?_
  refine WX.draw rfl ?_
  refine WXL.move Met.none rfl ?_
  refine WXL.nilCheck Met.none rfl ?_
  first | refine WXL.fieldAddr Met.none rfl Try.underlying92 rfl sz90 rfl ?_ | refine WXL.faS Met.none rfl Try.underlying92 rfl sz90 ?_
  first | refine WXL.ld Met.none rfl agg90 ?_ | refine WXL.ldS Met.none rfl agg90 ?_
  refine WXL.move Met.none rfl ?_
  refine WXL.ldN (vs := [_, _]) Met.none rfl agg94 sz94 ?_
  refine WXL.mapUpdate (j := 2) Met.none rfl rfl rfl mapT90 ?_ (hj := rfl)
  refine WXL.nil ?_
  refine Fin.then_normal ?_
  refine WX.seq ?_
  refine WX.region rfl ?_
  refine WXL.fieldAddr (off' := 0) Met.none rfl Try.underlying94 rfl sz23 rfl ?_
  first | refine WXL.ld Met.none rfl agg23 ?_ | refine WXL.ldS Met.none rfl agg23 ?_
  refine WXL.len Met.none rfl Try.underlying23 ?_
  refine WXL.bin Met.none rfl rfl rfl ?_
  refine WXL.nil ?_
  refine Fin.then_normal ?_
  refine WX.cond rfl (fun hc0 => ?_) (fun hc0 => ?_)
  · try simp only [cnd] at hc0
    refine WX.region rfl ?_
    refine WXL.move Met.none rfl ?_
    refine WXL.nilCheck Met.none rfl ?_
    first | refine WXL.fieldAddr Met.none rfl Try.underlying92 rfl sz90 rfl ?_ | refine WXL.faS Met.none rfl Try.underlying92 rfl sz90 ?_
    first | refine WXL.ld Met.none rfl agg90 ?_ | refine WXL.ldS Met.none rfl agg90 ?_
    refine WXL.move Met.none rfl ?_
    refine WXL.delete (j := 2) Met.none rfl rfl mapT90 ?_ (hj := rfl)
    refine WXL.nil ?_
    first
    | exact Fin.result (O' := dkO d bm D ((mx.put n (fileV a m c t)).del n) R) (.inl rfl) rfl rfl drop_ (by unfold setX; rw [if_pos (by omega)])
    | exact Fin.result (O' := dkO d bm D (mx.put n (fileV a m c t)) R) (.inl rfl) rfl rfl drop_ (by unfold setX; rw [if_neg (by omega)])
  · try simp only [cnd] at hc0
    refine WX.skip ?_
    first
    | exact Fin.result (O' := dkO d bm D ((mx.put n (fileV a m c t)).del n) R) (.inl rfl) rfl rfl drop_ (by unfold setX; rw [if_pos (by omega)])
    | exact Fin.result (O' := dkO d bm D (mx.put n (fileV a m c t)) R) (.inl rfl) rfl rfl drop_ (by unfold setX; rw [if_neg (by omega)])

theorem diskNew_ok (O : Objs) (room : Int) : Spec Try.prog false 52 #[I room] O fun v O' =>
    (0 ≤ room ∧ room ≤ 16777216 ∧ ∃ d bm, v = .tuple #[Ptr d 0, I 0] ∧ O' = dkO d bm ⟨room, false, false, 0, []⟩ .new O) ∨ (¬ (0 ≤ room ∧ room ≤ 16777216) ∧ v = .tuple #[.pointer none, I 1] ∧ O' = O) := by
  refine Spec.enter (args := [_]) (m := 14) Try.func52 rfl rfl (by decide +kernel) fun h0 => ?_
  refine WX.seq ?_
  refine WX.region rfl ?_
  refine WXL.assign Met.none rfl ?_
  refine WXL.assign Met.none rfl ?_
  refine WXL.nil ?_
  refine Fin.then_normal ?_
  refine WX.seq ?_
  refine WX.seq ?_
  refine WX.region rfl ?_
  refine WXL.move Met.none rfl ?_
  refine WXL.bin Met.none rfl rfl rfl ?_
  refine WXL.move Met.none rfl ?_
  refine WXL.split (d := 6) rfl (fun hg6 => ?_) (fun hg6 => ?_)
  · try simp only [cnd] at hg6
    refine WXL.miss (j := 2) (d := 6) rfl rfl rfl ?_
    refine WXL.miss (j := 2) (d := 6) rfl rfl rfl ?_
    refine WXL.pick_t Met.none rfl rfl ?_
    refine WXL.nil ?_
    refine Fin.then_normal ?_
    refine WX.cond rfl (fun hc0 => ?_) (fun hc0 => nomatch hc0)
    refine WX.seq ?_
    refine WX.region rfl ?_
    refine WXL.assign Met.none rfl ?_
    refine WXL.assign Met.none rfl ?_
    refine WXL.nil ?_
    refine Fin.then_normal ?_
    refine WX.ret ?_
    refine Fin.then_ret ?_
    first
    | exact Fin.result (O' := O) (.inr rfl) rfl rfl drop_ (.inr ⟨by omega, rfl, rfl⟩)
    | exact Fin.result (O' := dkO b13 b10 ⟨room, false, false, 0, []⟩ .new O) (.inr rfl) rfl rfl drop_ (.inl ⟨by omega, by omega, _, _, rfl, rfl⟩)
  · try simp only [cnd] at hg6
    refine WXL.move (Met.some rfl rfl rfl) rfl ?_
    refine WXL.bin (Met.some rfl rfl rfl) rfl rfl rfl ?_
    refine WXL.pick_f Met.none rfl rfl ?_
    refine WXL.nil ?_
    refine Fin.then_normal ?_
    refine WX.cond rfl (fun hc0 => ?_) (fun hc0 => ?_)
    · try simp only [cnd] at hc0
      refine WX.seq ?_
      refine WX.region rfl ?_
      refine WXL.assign Met.none rfl ?_
      refine WXL.assign Met.none rfl ?_
      refine WXL.nil ?_
      refine Fin.then_normal ?_
      refine WX.ret ?_
      refine Fin.then_ret ?_
      first
      | exact Fin.result (O' := O) (.inr rfl) rfl rfl drop_ (.inr ⟨by omega, rfl, rfl⟩)
      | exact Fin.result (O' := dkO b13 b10 ⟨room, false, false, 0, []⟩ .new O) (.inr rfl) rfl rfl drop_ (.inl ⟨by omega, by omega, _, _, rfl, rfl⟩)
    · try simp only [cnd] at hc0
      refine WX.skip ?_
      refine Fin.then_normal ?_
      refine WX.seq ?_
      refine WX.region rfl ?_
      refine WXL.makeMap Met.none (fun b10 => ?_)
      refine WXL.move Met.none rfl ?_
      refine WXL.build (c := [_, _, _, _, _]) Met.none rfl zero92 places92 rfl ?_
      refine WXL.box (c := [_, _, _, _, _]) Met.none rfl rfl rfl (fun b13 => ?_)
      refine WXL.assign Met.none rfl ?_
      refine WXL.assign Met.none rfl ?_
      refine WXL.nil ?_
      refine Fin.then_normal ?_
      refine WX.ret ?_
      first
      | exact Fin.result (O' := O) (.inr rfl) rfl rfl drop_ (.inr ⟨by omega, rfl, rfl⟩)
      | exact Fin.result (O' := dkO b13 b10 ⟨room, false, false, 0, []⟩ .new O) (.inr rfl) rfl rfl drop_ (.inl ⟨by omega, by omega, _, _, rfl, rfl⟩)

theorem diskRead_ok (R : Objs) {R0 : Objs} (d bm : Nat) (D : Dk) (mx : MapX) (n : Int) (hD : DkI R0 D mx) (hi : ∀ g, Sat g R → Sat g R0) :
    Spec Try.prog false 53 #[Ptr d 0, I n] (dkO d bm D mx R) fun v O' => ∃ a c G, v = .tuple #[.slice a (readD D n).1.length c, I (readD D n).2] ∧ Grow 1 a (readD D n).1.length c ((readD D n).1.map B8) G ∧ O' = dkO d bm D mx (G ++ R) := by
  obtain ⟨fa, fc, hfv, hrow0, hnil, hB⟩ := hD.di.get n
  have hrow := hrow0.inc hi
  have hlen := hD.get_len n
  refine Spec.enter (args := [_, _]) (m := 23) Try.func53 rfl rfl (by decide +kernel) fun h0 => ?_
  refine WX.seq ?_
  refine WX.region rfl ?_
  refine WXL.assign Met.none rfl ?_
  refine WXL.assign Met.none rfl ?_
  refine WXL.nil ?_
  refine Fin.then_normal ?_
  refine WX.seq ?_
  refine WX.block ?_
  refine WX.seq ?_
  refine WX.region rfl ?_
  refine WXL.move Met.none rfl ?_
  refine WXL.cl (O1 := _) Met.none rfl (fnOk_of Try.func57 (by decide +kernel)) rfl (fun _ h => h) (exists_ok _ n) (fun v O' hp => ?_)
  obtain ⟨rfl, hO⟩ := hp
  subst O'
  refine WXL.not Met.none rfl ?_
  refine WXL.assign Met.none rfl ?_
  refine WXL.nil ?_
  refine Fin.then_normal ?_
  refine WX.cond rfl (fun hc0 => ?_) (fun hc0 => ?_)
  · try simp only [cnd] at hc0
    refine WX.seq ?_
    refine WX.region rfl ?_
    refine WXL.assign Met.none rfl ?_
    refine WXL.assign Met.none rfl ?_
    refine WXL.nil ?_
    refine Fin.then_normal ?_
    refine WX.ret ?_
    refine Fin.block_ret ?_
    refine Fin.then_ret ?_
    first
    | exact Fin.result (O' := dkO d bm D mx ([] ++ R)) (.inr rfl) rfl rfl drop_ (by unfold readD; rw [if_pos (by omega)]; exact ⟨none, 0, [], rfl, .nil, rfl⟩)
    | exact Fin.result (O' := dkO d bm D mx ([] ++ R)) (.inr rfl) rfl rfl drop_ (by unfold readD; rw [if_neg (by omega), if_pos (by assumption)]; exact ⟨none, 0, [], rfl, .nil, rfl⟩)
    | exact Fin.result (O' := dkO d bm D mx (G7 ++ R)) (.inr rfl) rfl rfl sub_ (by unfold readD; rw [if_neg (by omega), if_neg (by simp [hc1])]; exact ⟨a7, c7, G7, rfl, hG7, rfl⟩)
  · try simp only [cnd] at hc0
    refine WX.seq ?_
    refine WX.region rfl ?_
    refine WXL.move Met.none rfl ?_
    refine WXL.nilCheck Met.none rfl ?_
    first | refine WXL.fieldAddr Met.none rfl Try.underlying92 rfl sz4 rfl ?_ | refine WXL.faS Met.none rfl Try.underlying92 rfl sz4 ?_
    first | refine WXL.ld Met.none rfl agg4 ?_ | refine WXL.ldS Met.none rfl agg4 ?_
    refine WXL.assign Met.none rfl ?_
    refine WXL.nil ?_
    refine Fin.then_normal ?_
    refine WX.cond rfl (fun hc1 => ?_) (fun hc1 => ?_)
    · try simp only [cnd] at hc1
      refine WX.seq ?_
      refine WX.region rfl ?_
      refine WXL.assign Met.none rfl ?_
      refine WXL.assign Met.none rfl ?_
      refine WXL.nil ?_
      refine Fin.then_normal ?_
      refine WX.ret ?_
      refine Fin.block_ret ?_
      refine Fin.then_ret ?_
      first
      | exact Fin.result (O' := dkO d bm D mx ([] ++ R)) (.inr rfl) rfl rfl drop_ (by unfold readD; rw [if_pos (by omega)]; exact ⟨none, 0, [], rfl, .nil, rfl⟩)
      | exact Fin.result (O' := dkO d bm D mx ([] ++ R)) (.inr rfl) rfl rfl drop_ (by unfold readD; rw [if_neg (by omega), if_pos (by assumption)]; exact ⟨none, 0, [], rfl, .nil, rfl⟩)
      | exact Fin.result (O' := dkO d bm D mx (G7 ++ R)) (.inr rfl) rfl rfl sub_ (by unfold readD; rw [if_neg (by omega), if_neg (by simp [hc1])]; exact ⟨a7, c7, G7, rfl, hG7, rfl⟩)
    · try simp only [cnd] at hc1
      refine WX.skip ?_
      refine Fin.block_normal ?_
      refine Fin.then_normal ?_
      refine WX.seq ?_
      refine WX.region rfl ?_
      refine WXL.move Met.none rfl ?_
      refine WXL.nilCheck Met.none rfl ?_
      first | refine WXL.fieldAddr Met.none rfl Try.underlying92 rfl sz90 rfl ?_ | refine WXL.faS Met.none rfl Try.underlying92 rfl sz90 ?_
      first | refine WXL.ld Met.none rfl agg90 ?_ | refine WXL.ldS Met.none rfl agg90 ?_
      refine WXL.move Met.none rfl ?_
      refine WXL.lookup Met.none rfl rfl mapT90 zero94 at_ (show _ = fileV fa (getF D.fs n).bs.length fc (getF D.fs n).d from hfv) ?_
      refine WXL.fieldV Met.none rfl Try.underlying94 rfl (part1 agg23 rfl) ?_
      refine WXL.cl (O1 := _) Met.none rfl (fnOk_of Try.func46 (by decide +kernel)) rfl (fun _ h => h) (clone_ok _ (getF D.fs n).bs fa fc (by omega) (fun q => by
      have := hrow.nil0 q
      exact List.length_eq_zero_iff.1 this) (Src.cons (Src.cons (hrow.src hnil)))) (fun v O' hp => ?_)
      obtain ⟨a7, c7, G7, rfl, hG7, rfl⟩ := hp
      refine WXL.assign Met.none rfl ?_
      refine WXL.assign Met.none rfl ?_
      refine WXL.nil ?_
      refine Fin.then_normal ?_
      refine WX.ret ?_
      first
      | exact Fin.result (O' := dkO d bm D mx ([] ++ R)) (.inr rfl) rfl rfl drop_ (by unfold readD; rw [if_pos (by omega)]; exact ⟨none, 0, [], rfl, .nil, rfl⟩)
      | exact Fin.result (O' := dkO d bm D mx ([] ++ R)) (.inr rfl) rfl rfl drop_ (by unfold readD; rw [if_neg (by omega), if_pos (by assumption)]; exact ⟨none, 0, [], rfl, .nil, rfl⟩)
      | exact Fin.result (O' := dkO d bm D mx (G7 ++ R)) (.inr rfl) rfl rfl sub_ (by unfold readD; rw [if_neg (by omega), if_neg (by simp [hc1])]; exact ⟨a7, c7, G7, rfl, hG7, rfl⟩)

end Go.Proofs.Ythekokdpplobhaa.Eng

set_option linter.unusedVariables false
set_option linter.unusedSimpArgs false
namespace Go.Proofs.Ythekokdpplobhaa.Eng

theorem used_ok (q : Bool) (R : Objs) {R0 : Objs} (d bm : Nat) (D : Dk) (mx : MapX) (hD : DkI R0 D mx) :
    Spec Try.prog q 31 #[Ptr d 0] (dkO d bm D mx R) fun v O' => v = I (used D.fs) ∧ O' = dkO d bm D mx R :=
  Spec.direct fun g hs => ⟨_, g, _, used_direct (ro1 := false) (ro2 := false) (bm := bm) (mx := mx) (hs.at (j := 0) rfl) (hs.at (j := 1) rfl) hD.files (by
    have h1 := hD.lens
    have h2 := hD.used
    have h3 := hD.room
    omega), ⟨by rw [hD.lens], rfl⟩, hs, fun _ => Old.refl g⟩

theorem harden_ok (R : Objs) {R0 : Objs} (d bm : Nat) (D : Dk) (mx : MapX) (hD : DkI R0 D mx) :
    Spec Try.prog false 61 #[Ptr d 0] (dkO d bm D mx R) fun v O' => v = .tuple #[] ∧ O' = dkO d bm { D with fs := hardAll D.fs } mx.hard R :=
  Spec.direct fun g hs => by
    obtain ⟨f, k, h2⟩ := hs.at (j := 1) (b := bm) (x := ⟨2, false, mcells mx⟩) rfl
    exact ⟨_, _, dkO d bm { D with fs := hardAll D.fs } mx.hard R, harden_direct (ro1 := false) (bm := bm) (mx := mx) (hs.at (j := 0) rfl) h2 hD.files hD.keys, ⟨rfl, rfl⟩, hs.set (j := 1) rfl h2, fun q => by cases q⟩

theorem sync_ok (R : Objs) {R0 : Objs} (d bm : Nat) (D : Dk) (mx : MapX) (hD : DkI R0 D mx) :
    Spec Try.prog false 55 #[Ptr d 0] (dkO d bm D mx R) fun v O' => ∃ mx', v = I (syncD D).1 ∧ O' = dkO d bm (syncD D).2 mx' R ∧ DkI R0 (syncD D).2 mx' := by
  refine Spec.enter (args := [_]) (m := 14) Try.func55 rfl rfl (by decide +kernel) fun h0 => ?_
  refine WX.seq ?_
  refine WX.region rfl ?_
  refine WXL.assign Met.none rfl ?_
  refine WXL.nil ?_
  refine Fin.then_normal ?_
  refine WX.seq ?_
  refine WX.seq ?_
  refine WX.region rfl ?_
  refine WXL.move Met.none rfl ?_
  refine WXL.nilCheck Met.none rfl ?_
  first | refine WXL.fieldAddr Met.none rfl Try.underlying92 rfl sz4 rfl ?_ | refine WXL.faS Met.none rfl Try.underlying92 rfl sz4 ?_
  first | refine WXL.ld Met.none rfl agg4 ?_ | refine WXL.ldS Met.none rfl agg4 ?_
  refine WXL.move Met.none rfl ?_
  refine WXL.split (d := 7) rfl (fun hg7 => ?_) (fun hg7 => ?_)
  · try simp only [cnd] at hg7
    refine WXL.miss (j := 4) (d := 7) rfl rfl rfl ?_
    refine WXL.miss (j := 4) (d := 7) rfl rfl rfl ?_
    refine WXL.miss (j := 4) (d := 7) rfl rfl rfl ?_
    refine WXL.pick_t Met.none rfl rfl ?_
    refine WXL.nil ?_
    refine Fin.then_normal ?_
    refine WX.cond rfl (fun hc0 => ?_) (fun hc0 => nomatch hc0)
    refine WX.seq ?_
    refine WX.region rfl ?_
    refine WXL.assign Met.none rfl ?_
    refine WXL.nil ?_
    refine Fin.then_normal ?_
    refine WX.ret ?_
    refine Fin.then_ret ?_
    first
    | exact Fin.result (O' := dkO d bm D mx R) (.inr rfl) rfl rfl drop_ (by unfold syncD; rw [if_pos (by assumption)]; exact ⟨mx, rfl, rfl, hD⟩)
    | exact Fin.result (O' := dkO d bm (stepD D).2 mx R) (.inr rfl) rfl rfl drop_ (by unfold syncD; rw [if_neg (by simp [hg7]), if_pos (by simpa using hc0)]; exact ⟨mx, rfl, rfl, hD.step⟩)
    | exact Fin.result (O' := dkO d bm { (stepD D).2 with fs := hardAll (stepD D).2.fs } mx.hard R) (.inr rfl) rfl rfl drop_ (by unfold syncD; rw [if_neg (by simp [hg7]), if_neg (by simpa using hc0)]; exact ⟨mx.hard, rfl, rfl, hD.step.hard⟩)
  · try simp only [cnd] at hg7
    refine WXL.move (Met.some rfl rfl rfl) rfl ?_
    refine WXL.cl (O1 := _) (Met.some rfl rfl rfl) rfl (fnOk_of Try.func59 (by decide +kernel)) rfl (fun _ h => h) (step_ok R d bm D mx hD.left) (fun v O' hp => ?_)
    obtain ⟨rfl, hO⟩ := hp
    subst O'
    refine WXL.not (Met.some rfl rfl rfl) rfl ?_
    refine WXL.pick_f Met.none rfl rfl ?_
    refine WXL.nil ?_
    refine Fin.then_normal ?_
    refine WX.cond rfl (fun hc0 => ?_) (fun hc0 => ?_)
    · try simp only [cnd] at hc0
      refine WX.seq ?_
      refine WX.region rfl ?_
      refine WXL.assign Met.none rfl ?_
      refine WXL.nil ?_
      refine Fin.then_normal ?_
      refine WX.ret ?_
      refine Fin.then_ret ?_
      first
      | exact Fin.result (O' := dkO d bm D mx R) (.inr rfl) rfl rfl drop_ (by unfold syncD; rw [if_pos (by assumption)]; exact ⟨mx, rfl, rfl, hD⟩)
      | exact Fin.result (O' := dkO d bm (stepD D).2 mx R) (.inr rfl) rfl rfl drop_ (by unfold syncD; rw [if_neg (by simp [hg7]), if_pos (by simpa using hc0)]; exact ⟨mx, rfl, rfl, hD.step⟩)
      | exact Fin.result (O' := dkO d bm { (stepD D).2 with fs := hardAll (stepD D).2.fs } mx.hard R) (.inr rfl) rfl rfl drop_ (by unfold syncD; rw [if_neg (by simp [hg7]), if_neg (by simpa using hc0)]; exact ⟨mx.hard, rfl, rfl, hD.step.hard⟩)
    · try simp only [cnd] at hc0
      refine WX.skip ?_
      refine Fin.then_normal ?_
      refine WX.seq ?_
      refine WX.region rfl ?_
      refine WXL.move Met.none rfl ?_
      refine WXL.cl (O1 := _) Met.none rfl (fnOk_of Try.func61 (by decide +kernel)) rfl (fun _ h => h) (harden_ok R d bm (stepD D).2 mx hD.step) (fun v O' hp => ?_)
      obtain ⟨rfl, hO⟩ := hp
      subst O'
      refine WXL.nil ?_
      refine Fin.then_normal ?_
      refine WX.seq ?_
      refine WX.region rfl ?_
      refine WXL.assign Met.none rfl ?_
      refine WXL.nil ?_
      refine Fin.then_normal ?_
      refine WX.ret ?_
      first
      | exact Fin.result (O' := dkO d bm D mx R) (.inr rfl) rfl rfl drop_ (by unfold syncD; rw [if_pos (by assumption)]; exact ⟨mx, rfl, rfl, hD⟩)
      | exact Fin.result (O' := dkO d bm (stepD D).2 mx R) (.inr rfl) rfl rfl drop_ (by unfold syncD; rw [if_neg (by simp [hg7]), if_pos (by simpa using hc0)]; exact ⟨mx, rfl, rfl, hD.step⟩)
      | exact Fin.result (O' := dkO d bm { (stepD D).2 with fs := hardAll (stepD D).2.fs } mx.hard R) (.inr rfl) rfl rfl drop_ (by unfold syncD; rw [if_neg (by simp [hg7]), if_neg (by simpa using hc0)]; exact ⟨mx.hard, rfl, rfl, hD.step.hard⟩)

theorem trunc_ok (R : Objs) {R0 : Objs} (d bm : Nat) (D : Dk) (mx : MapX) (n size : Int) (hD : DkI R0 D mx) (hi : ∀ g, Sat g R → Sat g R0) :
    Spec Try.prog false 54 #[Ptr d 0, I n, I size] (dkO d bm D mx R) fun v O' => ∃ mx', v = I (truncD D n size).1 ∧ O' = dkO d bm (truncD D n size).2 mx' R ∧ DkI R0 (truncD D n size).2 mx' := by
  obtain ⟨fa, fc, hfv, hrow0, hnil, hB⟩ := hD.di.get n
  have hrow := hrow0.inc hi
  have hlen := hD.get_len n
  refine Spec.enter (args := [_, _, _]) (m := 49) Try.func54 rfl rfl (by decide +kernel) fun h0 => ?_
  refine WX.seq ?_
  refine WX.region rfl ?_
  refine WXL.assign Met.none rfl ?_
  refine WXL.nil ?_
  refine Fin.then_normal ?_
  refine WX.seq ?_
  refine WX.region rfl ?_
  refine WXL.move Met.none rfl ?_
  refine WXL.nilCheck Met.none rfl ?_
  first | refine WXL.fieldAddr Met.none rfl Try.underlying92 rfl sz90 rfl ?_ | refine WXL.faS Met.none rfl Try.underlying92 rfl sz90 ?_
  first | refine WXL.ld Met.none rfl agg90 ?_ | refine WXL.ldS Met.none rfl agg90 ?_
  refine WXL.move Met.none rfl ?_
  refine WXL.lookup Met.none rfl rfl mapT90 zero94 at_ (show _ = fileV fa (getF D.fs n).bs.length fc (getF D.fs n).d from hfv) ?_
  refine WXL.alloc (c := [_, _]) Met.none zero94 rfl (fun b7 => ?_)
  refine WXL.st (vs := [_, _]) (c' := [_, _]) (j := 0) Met.none rfl rfl rfl sz94 ?_ (hj := rfl)
  refine WXL.nil ?_
  refine Fin.then_normal ?_
  refine WX.seq ?_
  refine WX.seq ?_
  refine WX.region rfl ?_
  refine WXL.move Met.none rfl ?_
  refine WXL.cl (O1 := _) Met.none rfl (fnOk_of Try.func57 (by decide +kernel)) rfl (fun _ h => h) (exists_ok _ n) (fun v O' hp => ?_)
  obtain ⟨rfl, hO⟩ := hp
  subst O'
  refine WXL.not Met.none rfl ?_
  refine WXL.move Met.none rfl ?_
  refine WXL.split (d := 17) rfl (fun hg17 => ?_) (fun hg17 => ?_)
  · try simp only [cnd] at hg17
    refine WXL.miss (j := 3) (d := 17) rfl rfl rfl ?_
    refine WXL.miss (j := 3) (d := 17) rfl rfl rfl ?_
    refine WXL.pick_t Met.none rfl rfl ?_
    refine WXL.move Met.none rfl ?_
    refine WXL.miss (j := 7) (d := 21) rfl rfl rfl ?_
    refine WXL.miss (j := 7) (d := 21) rfl rfl rfl ?_
    refine WXL.miss (j := 7) (d := 21) rfl rfl rfl ?_
    refine WXL.miss (j := 7) (d := 21) rfl rfl rfl ?_
    refine WXL.miss (j := 7) (d := 21) rfl rfl rfl ?_
    refine WXL.pick_t Met.none rfl rfl ?_
    refine WXL.nil ?_
    refine Fin.then_normal ?_
    refine WX.cond rfl (fun hc0 => ?_) (fun hc0 => nomatch hc0)
    refine WX.seq ?_
    refine WX.region rfl ?_
    refine WXL.assign Met.none rfl ?_
    refine WXL.nil ?_
    refine Fin.then_normal ?_
    refine WX.ret ?_
    refine Fin.then_ret ?_
    first
    | exact Fin.result (O' := dkO d bm D mx R) (.inr rfl) rfl rfl drop_ (by unfold truncD; rw [if_pos (by omega)]; exact ⟨mx, rfl, rfl, hD⟩)
    | exact Fin.result (O' := dkO d bm D mx R) (.inr rfl) rfl rfl drop_ (by unfold truncD; rw [if_neg (by omega), if_pos (by assumption)]; exact ⟨mx, rfl, rfl, hD⟩)
    | exact Fin.result (O' := dkO d bm (stepD D).2 mx R) (.inr rfl) rfl rfl sub_ (by unfold truncD; rw [if_neg (by omega), if_neg (by simp [hg32]), if_pos (by simpa using hc1)]; exact ⟨mx, rfl, rfl, hD.step⟩)
    | exact Fin.result (O' := dkO d bm { (stepD D).2 with fs := setF D.fs n ⟨(getF D.fs n).bs.take k, min (getF D.fs n).d k⟩ } (setX mx n (fileV fa k k (min (getF D.fs n).d k)) k) R) (.inr rfl) rfl rfl drop_ (by
        unfold truncD
        rw [if_neg (by omega), if_neg (by simp [hg32]), if_neg (by simpa using hc1)]
        have hk : k ≤ (getF D.fs n).bs.length := by omega
        have hlk : ((getF D.fs n).bs.take k).length = k := by rw [List.length_take, Nat.min_eq_left hk]
        have hpre := hrow0.pre hk
        rw [Nat.mul_one, ← List.map_take] at hpre
        have hf : FileOk R0 (fileV fa k k (min (getF D.fs n).d k)) ⟨(getF D.fs n).bs.take k, min (getF D.fs n).d k⟩ := ⟨fa, k, by rw [hlk], by rw [hlk]; exact hpre, hpre.nil0, fun x hx => hB x (List.mem_of_mem_take hx)⟩
        obtain ⟨h1, h2⟩ := stepD_fs D
        have hs := hD.step.set n hf (by
          have := hD.used
          rw [h1, h2, hlk]
          omega)
        rw [hlk, h1] at hs
        exact ⟨_, rfl, rfl, hs⟩)
  · try simp only [cnd] at hg17
    refine WXL.move (Met.some rfl rfl rfl) rfl ?_
    refine WXL.bin (Met.some rfl rfl rfl) rfl rfl rfl ?_
    refine WXL.pick_f Met.none rfl rfl ?_
    refine WXL.move Met.none rfl ?_
    refine WXL.split (d := 21) rfl (fun hg21 => ?_) (fun hg21 => ?_)
    · try simp only [cnd] at hg21
      refine WXL.miss (j := 7) (d := 21) rfl rfl rfl ?_
      refine WXL.miss (j := 7) (d := 21) rfl rfl rfl ?_
      refine WXL.miss (j := 7) (d := 21) rfl rfl rfl ?_
      refine WXL.miss (j := 7) (d := 21) rfl rfl rfl ?_
      refine WXL.miss (j := 7) (d := 21) rfl rfl rfl ?_
      refine WXL.pick_t Met.none rfl rfl ?_
      refine WXL.nil ?_
      refine Fin.then_normal ?_
      refine WX.cond rfl (fun hc0 => ?_) (fun hc0 => nomatch hc0)
      refine WX.seq ?_
      refine WX.region rfl ?_
      refine WXL.assign Met.none rfl ?_
      refine WXL.nil ?_
      refine Fin.then_normal ?_
      refine WX.ret ?_
      refine Fin.then_ret ?_
      first
      | exact Fin.result (O' := dkO d bm D mx R) (.inr rfl) rfl rfl drop_ (by unfold truncD; rw [if_pos (by omega)]; exact ⟨mx, rfl, rfl, hD⟩)
      | exact Fin.result (O' := dkO d bm D mx R) (.inr rfl) rfl rfl drop_ (by unfold truncD; rw [if_neg (by omega), if_pos (by assumption)]; exact ⟨mx, rfl, rfl, hD⟩)
      | exact Fin.result (O' := dkO d bm (stepD D).2 mx R) (.inr rfl) rfl rfl sub_ (by unfold truncD; rw [if_neg (by omega), if_neg (by simp [hg32]), if_pos (by simpa using hc1)]; exact ⟨mx, rfl, rfl, hD.step⟩)
      | exact Fin.result (O' := dkO d bm { (stepD D).2 with fs := setF D.fs n ⟨(getF D.fs n).bs.take k, min (getF D.fs n).d k⟩ } (setX mx n (fileV fa k k (min (getF D.fs n).d k)) k) R) (.inr rfl) rfl rfl drop_ (by
          unfold truncD
          rw [if_neg (by omega), if_neg (by simp [hg32]), if_neg (by simpa using hc1)]
          have hk : k ≤ (getF D.fs n).bs.length := by omega
          have hlk : ((getF D.fs n).bs.take k).length = k := by rw [List.length_take, Nat.min_eq_left hk]
          have hpre := hrow0.pre hk
          rw [Nat.mul_one, ← List.map_take] at hpre
          have hf : FileOk R0 (fileV fa k k (min (getF D.fs n).d k)) ⟨(getF D.fs n).bs.take k, min (getF D.fs n).d k⟩ := ⟨fa, k, by rw [hlk], by rw [hlk]; exact hpre, hpre.nil0, fun x hx => hB x (List.mem_of_mem_take hx)⟩
          obtain ⟨h1, h2⟩ := stepD_fs D
          have hs := hD.step.set n hf (by
            have := hD.used
            rw [h1, h2, hlk]
            omega)
          rw [hlk, h1] at hs
          exact ⟨_, rfl, rfl, hs⟩)
    · try simp only [cnd] at hg21
      refine WXL.move (Met.some rfl rfl rfl) rfl ?_
      refine WXL.fieldAddr (off' := 0) (Met.some rfl rfl rfl) rfl Try.underlying94 rfl sz23 rfl ?_
      first | refine WXL.ld (Met.some rfl rfl rfl) rfl agg23 ?_ | refine WXL.ldS (Met.some rfl rfl rfl) rfl agg23 ?_
      refine WXL.len (Met.some rfl rfl rfl) rfl Try.underlying23 ?_
      refine WXL.bin (Met.some rfl rfl rfl) rfl rfl rfl ?_
      refine WXL.pick_f Met.none rfl rfl ?_
      refine WXL.nil ?_
      refine Fin.then_normal ?_
      refine WX.cond rfl (fun hc0 => ?_) (fun hc0 => ?_)
      · try simp only [cnd] at hc0
        refine WX.seq ?_
        refine WX.region rfl ?_
        refine WXL.assign Met.none rfl ?_
        refine WXL.nil ?_
        refine Fin.then_normal ?_
        refine WX.ret ?_
        refine Fin.then_ret ?_
        first
        | exact Fin.result (O' := dkO d bm D mx R) (.inr rfl) rfl rfl drop_ (by unfold truncD; rw [if_pos (by omega)]; exact ⟨mx, rfl, rfl, hD⟩)
        | exact Fin.result (O' := dkO d bm D mx R) (.inr rfl) rfl rfl drop_ (by unfold truncD; rw [if_neg (by omega), if_pos (by assumption)]; exact ⟨mx, rfl, rfl, hD⟩)
        | exact Fin.result (O' := dkO d bm (stepD D).2 mx R) (.inr rfl) rfl rfl sub_ (by unfold truncD; rw [if_neg (by omega), if_neg (by simp [hg32]), if_pos (by simpa using hc1)]; exact ⟨mx, rfl, rfl, hD.step⟩)
        | exact Fin.result (O' := dkO d bm { (stepD D).2 with fs := setF D.fs n ⟨(getF D.fs n).bs.take k, min (getF D.fs n).d k⟩ } (setX mx n (fileV fa k k (min (getF D.fs n).d k)) k) R) (.inr rfl) rfl rfl drop_ (by
            unfold truncD
            rw [if_neg (by omega), if_neg (by simp [hg32]), if_neg (by simpa using hc1)]
            have hk : k ≤ (getF D.fs n).bs.length := by omega
            have hlk : ((getF D.fs n).bs.take k).length = k := by rw [List.length_take, Nat.min_eq_left hk]
            have hpre := hrow0.pre hk
            rw [Nat.mul_one, ← List.map_take] at hpre
            have hf : FileOk R0 (fileV fa k k (min (getF D.fs n).d k)) ⟨(getF D.fs n).bs.take k, min (getF D.fs n).d k⟩ := ⟨fa, k, by rw [hlk], by rw [hlk]; exact hpre, hpre.nil0, fun x hx => hB x (List.mem_of_mem_take hx)⟩
            obtain ⟨h1, h2⟩ := stepD_fs D
            have hs := hD.step.set n hf (by
              have := hD.used
              rw [h1, h2, hlk]
              omega)
            rw [hlk, h1] at hs
            exact ⟨_, rfl, rfl, hs⟩)
      · try simp only [cnd] at hc0
        refine WX.skip ?_
        refine Fin.then_normal ?_
        refine WX.seq ?_
        refine WX.seq ?_
        refine WX.region rfl ?_
        refine WXL.move Met.none rfl ?_
        refine WXL.nilCheck Met.none rfl ?_
        first | refine WXL.fieldAddr Met.none rfl Try.underlying92 rfl sz4 rfl ?_ | refine WXL.faS Met.none rfl Try.underlying92 rfl sz4 ?_
        first | refine WXL.ld Met.none rfl agg4 ?_ | refine WXL.ldS Met.none rfl agg4 ?_
        refine WXL.move Met.none rfl ?_
        refine WXL.split (d := 32) rfl (fun hg32 => ?_) (fun hg32 => ?_)
        · try simp only [cnd] at hg32
          refine WXL.miss (j := 4) (d := 32) rfl rfl rfl ?_
          refine WXL.miss (j := 4) (d := 32) rfl rfl rfl ?_
          refine WXL.miss (j := 4) (d := 32) rfl rfl rfl ?_
          refine WXL.pick_t Met.none rfl rfl ?_
          refine WXL.nil ?_
          refine Fin.then_normal ?_
          refine WX.cond rfl (fun hc1 => ?_) (fun hc1 => nomatch hc1)
          refine WX.seq ?_
          refine WX.region rfl ?_
          refine WXL.assign Met.none rfl ?_
          refine WXL.nil ?_
          refine Fin.then_normal ?_
          refine WX.ret ?_
          refine Fin.then_ret ?_
          first
          | exact Fin.result (O' := dkO d bm D mx R) (.inr rfl) rfl rfl drop_ (by unfold truncD; rw [if_pos (by omega)]; exact ⟨mx, rfl, rfl, hD⟩)
          | exact Fin.result (O' := dkO d bm D mx R) (.inr rfl) rfl rfl drop_ (by unfold truncD; rw [if_neg (by omega), if_pos (by assumption)]; exact ⟨mx, rfl, rfl, hD⟩)
          | exact Fin.result (O' := dkO d bm (stepD D).2 mx R) (.inr rfl) rfl rfl sub_ (by unfold truncD; rw [if_neg (by omega), if_neg (by simp [hg32]), if_pos (by simpa using hc1)]; exact ⟨mx, rfl, rfl, hD.step⟩)
          | exact Fin.result (O' := dkO d bm { (stepD D).2 with fs := setF D.fs n ⟨(getF D.fs n).bs.take k, min (getF D.fs n).d k⟩ } (setX mx n (fileV fa k k (min (getF D.fs n).d k)) k) R) (.inr rfl) rfl rfl drop_ (by
              unfold truncD
              rw [if_neg (by omega), if_neg (by simp [hg32]), if_neg (by simpa using hc1)]
              have hk : k ≤ (getF D.fs n).bs.length := by omega
              have hlk : ((getF D.fs n).bs.take k).length = k := by rw [List.length_take, Nat.min_eq_left hk]
              have hpre := hrow0.pre hk
              rw [Nat.mul_one, ← List.map_take] at hpre
              have hf : FileOk R0 (fileV fa k k (min (getF D.fs n).d k)) ⟨(getF D.fs n).bs.take k, min (getF D.fs n).d k⟩ := ⟨fa, k, by rw [hlk], by rw [hlk]; exact hpre, hpre.nil0, fun x hx => hB x (List.mem_of_mem_take hx)⟩
              obtain ⟨h1, h2⟩ := stepD_fs D
              have hs := hD.step.set n hf (by
                have := hD.used
                rw [h1, h2, hlk]
                omega)
              rw [hlk, h1] at hs
              exact ⟨_, rfl, rfl, hs⟩)
        · try simp only [cnd] at hg32
          refine WXL.move (Met.some rfl rfl rfl) rfl ?_
          refine WXL.cl (O1 := dkO d bm D mx ((b7, ⟨0, false, [.slice fa (getF D.fs n).bs.length fc, I (getF D.fs n).d]⟩) :: R)) (Met.some rfl rfl rfl) rfl (fnOk_of Try.func59 (by decide +kernel)) rfl sub_ (step_ok _ d bm D mx hD.left) (fun v O' hp => ?_)
          obtain ⟨rfl, hO⟩ := hp
          subst O'
          refine WXL.not (Met.some rfl rfl rfl) rfl ?_
          refine WXL.pick_f Met.none rfl rfl ?_
          refine WXL.nil ?_
          refine Fin.then_normal ?_
          refine WX.cond rfl (fun hc1 => ?_) (fun hc1 => ?_)
          · try simp only [cnd] at hc1
            refine WX.seq ?_
            refine WX.region rfl ?_
            refine WXL.assign Met.none rfl ?_
            refine WXL.nil ?_
            refine Fin.then_normal ?_
            refine WX.ret ?_
            refine Fin.then_ret ?_
            first
            | exact Fin.result (O' := dkO d bm D mx R) (.inr rfl) rfl rfl drop_ (by unfold truncD; rw [if_pos (by omega)]; exact ⟨mx, rfl, rfl, hD⟩)
            | exact Fin.result (O' := dkO d bm D mx R) (.inr rfl) rfl rfl drop_ (by unfold truncD; rw [if_neg (by omega), if_pos (by assumption)]; exact ⟨mx, rfl, rfl, hD⟩)
            | exact Fin.result (O' := dkO d bm (stepD D).2 mx R) (.inr rfl) rfl rfl sub_ (by unfold truncD; rw [if_neg (by omega), if_neg (by simp [hg32]), if_pos (by simpa using hc1)]; exact ⟨mx, rfl, rfl, hD.step⟩)
            | exact Fin.result (O' := dkO d bm { (stepD D).2 with fs := setF D.fs n ⟨(getF D.fs n).bs.take k, min (getF D.fs n).d k⟩ } (setX mx n (fileV fa k k (min (getF D.fs n).d k)) k) R) (.inr rfl) rfl rfl drop_ (by
                unfold truncD
                rw [if_neg (by omega), if_neg (by simp [hg32]), if_neg (by simpa using hc1)]
                have hk : k ≤ (getF D.fs n).bs.length := by omega
                have hlk : ((getF D.fs n).bs.take k).length = k := by rw [List.length_take, Nat.min_eq_left hk]
                have hpre := hrow0.pre hk
                rw [Nat.mul_one, ← List.map_take] at hpre
                have hf : FileOk R0 (fileV fa k k (min (getF D.fs n).d k)) ⟨(getF D.fs n).bs.take k, min (getF D.fs n).d k⟩ := ⟨fa, k, by rw [hlk], by rw [hlk]; exact hpre, hpre.nil0, fun x hx => hB x (List.mem_of_mem_take hx)⟩
                obtain ⟨h1, h2⟩ := stepD_fs D
                have hs := hD.step.set n hf (by
                  have := hD.used
                  rw [h1, h2, hlk]
                  omega)
                rw [hlk, h1] at hs
                exact ⟨_, rfl, rfl, hs⟩)
          · try simp only [cnd] at hc1
            refine WX.skip ?_
            refine Fin.then_normal ?_
            refine WX.seq ?_
            obtain ⟨k, rfl⟩ : ∃ k : Nat, size = (k : Int) := ⟨size.toNat, by omega⟩
            refine WX.draw rfl ?_
            refine WXL.move Met.none rfl ?_
            refine WXL.move Met.none rfl ?_
            refine WXL.fieldAddr (off' := 0) Met.none rfl Try.underlying94 rfl sz23 rfl ?_
            first | refine WXL.ld Met.none rfl agg23 ?_ | refine WXL.ldS Met.none rfl agg23 ?_
            refine WXL.move Met.none rfl ?_
            refine WXL.pre (m := k) Met.none rfl rfl elem23 sz5 (Rowy.cons (Rowy.cons (Rowy.cons hrow))) hnil ?_
            refine WXL.fieldAddr (off' := 1) Met.none rfl Try.underlying94 rfl sz3 rfl ?_
            first | refine WXL.ld Met.none rfl agg3 ?_ | refine WXL.ldS Met.none rfl agg3 ?_
            refine WXL.move Met.none rfl ?_
            refine WXL.min Met.none rfl rfl ?_
            refine WXL.build (c := [_, _]) Met.none rfl zero94 places94 rfl ?_
            refine WXL.cl (O1 := dkO d bm (stepD D).2 mx R) Met.none rfl (fnOk_of Try.func58 (by decide +kernel)) rfl sub_ (set_ok R d bm (stepD D).2 mx n fa k k (min (getF D.fs n).d k)) (fun v O' hp => ?_)
            obtain rfl := hp
            refine WXL.nil ?_
            refine Fin.then_normal ?_
            refine WX.seq ?_
            refine WX.region rfl ?_
            refine WXL.assign Met.none rfl ?_
            refine WXL.nil ?_
            refine Fin.then_normal ?_
            refine WX.ret ?_
            first
            | exact Fin.result (O' := dkO d bm D mx R) (.inr rfl) rfl rfl drop_ (by unfold truncD; rw [if_pos (by omega)]; exact ⟨mx, rfl, rfl, hD⟩)
            | exact Fin.result (O' := dkO d bm D mx R) (.inr rfl) rfl rfl drop_ (by unfold truncD; rw [if_neg (by omega), if_pos (by assumption)]; exact ⟨mx, rfl, rfl, hD⟩)
            | exact Fin.result (O' := dkO d bm (stepD D).2 mx R) (.inr rfl) rfl rfl sub_ (by unfold truncD; rw [if_neg (by omega), if_neg (by simp [hg32]), if_pos (by simpa using hc1)]; exact ⟨mx, rfl, rfl, hD.step⟩)
            | exact Fin.result (O' := dkO d bm { (stepD D).2 with fs := setF D.fs n ⟨(getF D.fs n).bs.take k, min (getF D.fs n).d k⟩ } (setX mx n (fileV fa k k (min (getF D.fs n).d k)) k) R) (.inr rfl) rfl rfl drop_ (by
                unfold truncD
                rw [if_neg (by omega), if_neg (by simp [hg32]), if_neg (by simpa using hc1)]
                have hk : k ≤ (getF D.fs n).bs.length := by omega
                have hlk : ((getF D.fs n).bs.take k).length = k := by rw [List.length_take, Nat.min_eq_left hk]
                have hpre := hrow0.pre hk
                rw [Nat.mul_one, ← List.map_take] at hpre
                have hf : FileOk R0 (fileV fa k k (min (getF D.fs n).d k)) ⟨(getF D.fs n).bs.take k, min (getF D.fs n).d k⟩ := ⟨fa, k, by rw [hlk], by rw [hlk]; exact hpre, hpre.nil0, fun x hx => hB x (List.mem_of_mem_take hx)⟩
                obtain ⟨h1, h2⟩ := stepD_fs D
                have hs := hD.step.set n hf (by
                  have := hD.used
                  rw [h1, h2, hlk]
                  omega)
                rw [hlk, h1] at hs
                exact ⟨_, rfl, rfl, hs⟩)

end Go.Proofs.Ythekokdpplobhaa.Eng

set_option linter.unusedVariables false
set_option linter.unusedSimpArgs false
namespace Go.Proofs.Ythekokdpplobhaa.Eng

theorem diskAppend_ok (R : Objs) {R0 : Objs} (d bm : Nat) (D : Dk) (mx : MapX) (n : Int) (b : List Int) (ab : Option Addr) (cb : Nat) (hD : DkI R0 D mx) (hi : ∀ g, Sat g R → Sat g R0) (hb : Src R 1 (.slice ab b.length cb) b.length (b.map B8)) (hBb : Bytes b) :
    Spec Try.prog false 35 #[Ptr d 0, I n, .slice ab b.length cb] (dkO d bm D mx R) fun v O' => ∃ mx' N, v = I (appendD D n b).1 ∧ O' = dkO d bm (appendD D n b).2 mx' (N ++ R) ∧ DkI (N ++ R0) (appendD D n b).2 mx' := by
  obtain ⟨fa, fc, hfv, hrow0, hnil, hB⟩ := hD.di.get n
  have hrow := hrow0.inc hi
  have hlen := hD.get_len n
  have hu := hD.used
  have hr := hD.room
  have hn := used_nn D.fs
  refine Spec.enter (args := [_, _, _]) (m := 47) Try.func35 rfl rfl (by decide +kernel) fun h0 => ?_
  refine WX.seq ?_
  refine WX.region rfl ?_
  refine WXL.assign Met.none rfl ?_
  refine WXL.nil ?_
  refine Fin.then_normal ?_
  refine WX.seq ?_
  refine WX.block ?_
  refine WX.seq ?_
  refine WX.region rfl ?_
  refine WXL.move Met.none rfl ?_
  refine WXL.cl (O1 := _) Met.none rfl (fnOk_of Try.func57 (by decide +kernel)) rfl (fun _ h => h) (exists_ok _ n) (fun v O' hp => ?_)
  obtain ⟨rfl, hO⟩ := hp
  subst O'
  refine WXL.not Met.none rfl ?_
  refine WXL.assign Met.none rfl ?_
  refine WXL.nil ?_
  refine Fin.then_normal ?_
  refine WX.cond rfl (fun hc0 => ?_) (fun hc0 => ?_)
  · try simp only [cnd] at hc0
    refine WX.seq ?_
    refine WX.region rfl ?_
    refine WXL.assign Met.none rfl ?_
    refine WXL.nil ?_
    refine Fin.then_normal ?_
    refine WX.ret ?_
    refine Fin.block_ret ?_
    refine Fin.then_ret ?_
    first
    | exact Fin.result (O' := dkO d bm D mx ([] ++ R)) (.inr rfl) rfl rfl drop_ (by unfold appendD; rw [if_pos (by omega)]; exact ⟨mx, [], rfl, rfl, hD⟩)
    | exact Fin.result (O' := dkO d bm D mx ([] ++ R)) (.inr rfl) rfl rfl drop_ (by unfold appendD; rw [if_neg (by omega), if_pos (by assumption)]; exact ⟨mx, [], rfl, rfl, hD⟩)
    | exact Fin.result (O' := dkO d bm D mx ([] ++ R)) (.inr rfl) rfl rfl drop_ (by unfold appendD; rw [if_neg (by omega), if_neg (by simp [hc1]), if_pos (by omega)]; exact ⟨mx, [], rfl, rfl, hD⟩)
    | exact Fin.result (O' := dkO d bm (stepD (appD1 D n b)).2 _ (G38 ++ R)) (.inr rfl) rfl rfl drop_ (by unfold appendD; rw [if_neg (by omega), if_neg (by simp [hc1]), if_neg (by omega), if_neg (by simpa using hc3)]; exact ⟨_, G38, rfl, rfl, hs.step⟩)
    | exact Fin.result (O' := dkO d bm (stepD (appD1 D n b)).2 _ (G38 ++ R)) (.inr rfl) rfl rfl drop_ (by unfold appendD; rw [if_neg (by omega), if_neg (by simp [hc1]), if_neg (by omega), if_pos (by simpa using hc3)]; exact ⟨_, G38, rfl, rfl, hs.step⟩)
  · try simp only [cnd] at hc0
    refine WX.seq ?_
    refine WX.region rfl ?_
    refine WXL.move Met.none rfl ?_
    refine WXL.nilCheck Met.none rfl ?_
    first | refine WXL.fieldAddr Met.none rfl Try.underlying92 rfl sz4 rfl ?_ | refine WXL.faS Met.none rfl Try.underlying92 rfl sz4 ?_
    first | refine WXL.ld Met.none rfl agg4 ?_ | refine WXL.ldS Met.none rfl agg4 ?_
    refine WXL.assign Met.none rfl ?_
    refine WXL.nil ?_
    refine Fin.then_normal ?_
    refine WX.cond rfl (fun hc1 => ?_) (fun hc1 => ?_)
    · try simp only [cnd] at hc1
      refine WX.seq ?_
      refine WX.region rfl ?_
      refine WXL.assign Met.none rfl ?_
      refine WXL.nil ?_
      refine Fin.then_normal ?_
      refine WX.ret ?_
      refine Fin.block_ret ?_
      refine Fin.then_ret ?_
      first
      | exact Fin.result (O' := dkO d bm D mx ([] ++ R)) (.inr rfl) rfl rfl drop_ (by unfold appendD; rw [if_pos (by omega)]; exact ⟨mx, [], rfl, rfl, hD⟩)
      | exact Fin.result (O' := dkO d bm D mx ([] ++ R)) (.inr rfl) rfl rfl drop_ (by unfold appendD; rw [if_neg (by omega), if_pos (by assumption)]; exact ⟨mx, [], rfl, rfl, hD⟩)
      | exact Fin.result (O' := dkO d bm D mx ([] ++ R)) (.inr rfl) rfl rfl drop_ (by unfold appendD; rw [if_neg (by omega), if_neg (by simp [hc1]), if_pos (by omega)]; exact ⟨mx, [], rfl, rfl, hD⟩)
      | exact Fin.result (O' := dkO d bm (stepD (appD1 D n b)).2 _ (G38 ++ R)) (.inr rfl) rfl rfl drop_ (by unfold appendD; rw [if_neg (by omega), if_neg (by simp [hc1]), if_neg (by omega), if_neg (by simpa using hc3)]; exact ⟨_, G38, rfl, rfl, hs.step⟩)
      | exact Fin.result (O' := dkO d bm (stepD (appD1 D n b)).2 _ (G38 ++ R)) (.inr rfl) rfl rfl drop_ (by unfold appendD; rw [if_neg (by omega), if_neg (by simp [hc1]), if_neg (by omega), if_pos (by simpa using hc3)]; exact ⟨_, G38, rfl, rfl, hs.step⟩)
    · try simp only [cnd] at hc1
      refine WX.seq ?_
      refine WX.draw rfl ?_
      refine WXL.move Met.none rfl ?_
      refine WXL.len Met.none rfl Try.underlying23 ?_
      refine WXL.move Met.none rfl ?_
      refine WXL.nilCheck Met.none rfl ?_
      first | refine WXL.fieldAddr Met.none rfl Try.underlying92 rfl sz3 rfl ?_ | refine WXL.faS Met.none rfl Try.underlying92 rfl sz3 ?_
      first | refine WXL.ld Met.none rfl agg3 ?_ | refine WXL.ldS Met.none rfl agg3 ?_
      refine WXL.move Met.none rfl ?_
      refine WXL.cl (O1 := _) Met.none rfl (fnOk_of Try.func31 (by decide +kernel)) rfl (fun _ h => h) (used_ok _ R d bm D mx hD) (fun v O' hp => ?_)
      obtain ⟨rfl, hO⟩ := hp
      subst O'
      refine WXL.bin Met.none rfl rfl bvS ?_
      refine WXL.bin Met.none rfl rfl rfl ?_
      refine WXL.assign Met.none rfl ?_
      refine WXL.nil ?_
      refine Fin.then_normal ?_
      refine WX.cond rfl (fun hc2 => ?_) (fun hc2 => ?_)
      · try simp only [cnd] at hc2
        refine WX.seq ?_
        refine WX.region rfl ?_
        refine WXL.assign Met.none rfl ?_
        refine WXL.nil ?_
        refine Fin.then_normal ?_
        refine WX.ret ?_
        refine Fin.block_ret ?_
        refine Fin.then_ret ?_
        first
        | exact Fin.result (O' := dkO d bm D mx ([] ++ R)) (.inr rfl) rfl rfl drop_ (by unfold appendD; rw [if_pos (by omega)]; exact ⟨mx, [], rfl, rfl, hD⟩)
        | exact Fin.result (O' := dkO d bm D mx ([] ++ R)) (.inr rfl) rfl rfl drop_ (by unfold appendD; rw [if_neg (by omega), if_pos (by assumption)]; exact ⟨mx, [], rfl, rfl, hD⟩)
        | exact Fin.result (O' := dkO d bm D mx ([] ++ R)) (.inr rfl) rfl rfl drop_ (by unfold appendD; rw [if_neg (by omega), if_neg (by simp [hc1]), if_pos (by omega)]; exact ⟨mx, [], rfl, rfl, hD⟩)
        | exact Fin.result (O' := dkO d bm (stepD (appD1 D n b)).2 _ (G38 ++ R)) (.inr rfl) rfl rfl drop_ (by unfold appendD; rw [if_neg (by omega), if_neg (by simp [hc1]), if_neg (by omega), if_neg (by simpa using hc3)]; exact ⟨_, G38, rfl, rfl, hs.step⟩)
        | exact Fin.result (O' := dkO d bm (stepD (appD1 D n b)).2 _ (G38 ++ R)) (.inr rfl) rfl rfl drop_ (by unfold appendD; rw [if_neg (by omega), if_neg (by simp [hc1]), if_neg (by omega), if_pos (by simpa using hc3)]; exact ⟨_, G38, rfl, rfl, hs.step⟩)
      · try simp only [cnd] at hc2
        refine WX.skip ?_
        refine Fin.block_normal ?_
        refine Fin.then_normal ?_
        refine WX.seq ?_
        refine WX.region rfl ?_
        refine WXL.move Met.none rfl ?_
        refine WXL.nilCheck Met.none rfl ?_
        first | refine WXL.fieldAddr Met.none rfl Try.underlying92 rfl sz90 rfl ?_ | refine WXL.faS Met.none rfl Try.underlying92 rfl sz90 ?_
        first | refine WXL.ld Met.none rfl agg90 ?_ | refine WXL.ldS Met.none rfl agg90 ?_
        refine WXL.move Met.none rfl ?_
        refine WXL.lookup Met.none rfl rfl mapT90 zero94 at_ (show _ = fileV fa (getF D.fs n).bs.length fc (getF D.fs n).d from hfv) ?_
        refine WXL.alloc (c := [_, _]) Met.none zero94 rfl (fun b7 => ?_)
        refine WXL.st (vs := [_, _]) (c' := [_, _]) (j := 0) Met.none rfl rfl rfl sz94 ?_ (hj := rfl)
        refine WXL.nil ?_
        refine Fin.then_normal ?_
        refine WX.seq ?_
        refine WX.region rfl ?_
        refine WXL.fieldAddr (off' := 0) Met.none rfl Try.underlying94 rfl sz23 rfl ?_
        first | refine WXL.ld Met.none rfl agg23 ?_ | refine WXL.ldS Met.none rfl agg23 ?_
        refine WXL.cl (O1 := _) Met.none rfl (fnOk_of Try.func46 (by decide +kernel)) rfl (fun _ h => h) (clone_ok _ (getF D.fs n).bs fa fc (by omega) (fun q => by
        have := hrow.nil0 q
        exact List.length_eq_zero_iff.1 this) (Src.cons (Src.cons (Src.cons (hrow.src hnil))))) (fun v O' hp => ?_)
        obtain ⟨a36, c36, G36, rfl, hG36, rfl⟩ := hp
        refine WXL.move Met.none rfl ?_
        refine WXL.apG ([]) Met.none rfl rfl isrow23 elem23 sz5 by5 zero5 (Src.app (Src.cons (Src.cons (Src.cons hb)))) (fun a38 c38 G38 hG38 => ?_) (hm := (by rw [List.length_map]; omega))
        refine WXL.re (O' := (b7, ⟨0, false, [.slice fa (getF D.fs n).bs.length fc, I (getF D.fs n).d]⟩) :: dkO d bm D mx (G38 ++ R)) ?_
        refine WXL.fieldAddr (off' := 0) Met.none rfl Try.underlying94 rfl sz23 rfl ?_
        refine WXL.st (vs := [_]) (c' := [_, _]) (j := 0) Met.none rfl rfl rfl sz23 ?_ (hj := rfl)
        refine WXL.nil ?_
        refine Fin.then_normal ?_
        refine WX.seq ?_
        refine WX.region rfl ?_
        refine WXL.move Met.none rfl ?_
        refine WXL.move Met.none rfl ?_
        refine WXL.ldN (vs := [_, _]) Met.none rfl agg94 sz94 ?_
        refine WXL.cl (O1 := dkO d bm D mx (G38 ++ R)) Met.none rfl (fnOk_of Try.func58 (by decide +kernel)) rfl sub_ (set_ok (G38 ++ R) d bm D mx n a38 ((getF D.fs n).bs.length + b.length) c38 (getF D.fs n).d) (fun v O' hp => ?_)
        obtain rfl := hp
        refine WXL.nil ?_
        refine Fin.then_normal ?_
        refine WX.seq ?_
        refine WX.seq ?_
        have hf : FileOk (G38 ++ R0) (fileV a38 ((getF D.fs n).bs.length + b.length) c38 (getF D.fs n).d) ⟨(getF D.fs n).bs ++ b, (getF D.fs n).d⟩ := by
          have h1 := hG38.rowy (R := R0)
          rw [← List.map_append] at h1
          exact ⟨a38, c38, by rw [List.length_append], by rw [List.length_append]; exact h1, fun q => (hG38.nil0 q).1, fun x hx => by
            rcases List.mem_append.1 hx with q | q
            · exact hB x q
            · exact hBb x q⟩
        have hs : DkI (G38 ++ R0) (appD1 D n b) (setX mx n (fileV a38 ((getF D.fs n).bs.length + b.length) c38 (getF D.fs n).d) ((getF D.fs n).bs.length + b.length)) := by
          have := (hD.app (N := G38)).set n hf (by rw [List.length_append]; omega)
          rw [List.length_append] at this
          exact this
        refine WX.region rfl ?_
        refine WXL.move Met.none rfl ?_
        refine WXL.cl (O1 := _) Met.none rfl (fnOk_of Try.func59 (by decide +kernel)) rfl (fun _ h => h) (step_ok (G38 ++ R) d bm (appD1 D n b) (setX mx n (fileV a38 ((getF D.fs n).bs.length + b.length) c38 (getF D.fs n).d) ((getF D.fs n).bs.length + b.length)) hs.left) (fun v O' hp => ?_)
        obtain ⟨rfl, hO⟩ := hp
        subst O'
        refine WXL.not Met.none rfl ?_
        refine WXL.nil ?_
        refine Fin.then_normal ?_
        refine WX.cond rfl (fun hc3 => ?_) (fun hc3 => ?_)
        · try simp only [cnd] at hc3
          refine WX.seq ?_
          refine WX.region rfl ?_
          refine WXL.assign Met.none rfl ?_
          refine WXL.nil ?_
          refine Fin.then_normal ?_
          refine WX.ret ?_
          refine Fin.then_ret ?_
          first
          | exact Fin.result (O' := dkO d bm D mx ([] ++ R)) (.inr rfl) rfl rfl drop_ (by unfold appendD; rw [if_pos (by omega)]; exact ⟨mx, [], rfl, rfl, hD⟩)
          | exact Fin.result (O' := dkO d bm D mx ([] ++ R)) (.inr rfl) rfl rfl drop_ (by unfold appendD; rw [if_neg (by omega), if_pos (by assumption)]; exact ⟨mx, [], rfl, rfl, hD⟩)
          | exact Fin.result (O' := dkO d bm D mx ([] ++ R)) (.inr rfl) rfl rfl drop_ (by unfold appendD; rw [if_neg (by omega), if_neg (by simp [hc1]), if_pos (by omega)]; exact ⟨mx, [], rfl, rfl, hD⟩)
          | exact Fin.result (O' := dkO d bm (stepD (appD1 D n b)).2 _ (G38 ++ R)) (.inr rfl) rfl rfl drop_ (by unfold appendD; rw [if_neg (by omega), if_neg (by simp [hc1]), if_neg (by omega), if_neg (by simpa using hc3)]; exact ⟨_, G38, rfl, rfl, hs.step⟩)
          | exact Fin.result (O' := dkO d bm (stepD (appD1 D n b)).2 _ (G38 ++ R)) (.inr rfl) rfl rfl drop_ (by unfold appendD; rw [if_neg (by omega), if_neg (by simp [hc1]), if_neg (by omega), if_pos (by simpa using hc3)]; exact ⟨_, G38, rfl, rfl, hs.step⟩)
        · try simp only [cnd] at hc3
          refine WX.skip ?_
          refine Fin.then_normal ?_
          refine WX.seq ?_
          refine WX.region rfl ?_
          refine WXL.assign Met.none rfl ?_
          refine WXL.nil ?_
          refine Fin.then_normal ?_
          refine WX.ret ?_
          first
          | exact Fin.result (O' := dkO d bm D mx ([] ++ R)) (.inr rfl) rfl rfl drop_ (by unfold appendD; rw [if_pos (by omega)]; exact ⟨mx, [], rfl, rfl, hD⟩)
          | exact Fin.result (O' := dkO d bm D mx ([] ++ R)) (.inr rfl) rfl rfl drop_ (by unfold appendD; rw [if_neg (by omega), if_pos (by assumption)]; exact ⟨mx, [], rfl, rfl, hD⟩)
          | exact Fin.result (O' := dkO d bm D mx ([] ++ R)) (.inr rfl) rfl rfl drop_ (by unfold appendD; rw [if_neg (by omega), if_neg (by simp [hc1]), if_pos (by omega)]; exact ⟨mx, [], rfl, rfl, hD⟩)
          | exact Fin.result (O' := dkO d bm (stepD (appD1 D n b)).2 _ (G38 ++ R)) (.inr rfl) rfl rfl drop_ (by unfold appendD; rw [if_neg (by omega), if_neg (by simp [hc1]), if_neg (by omega), if_neg (by simpa using hc3)]; exact ⟨_, G38, rfl, rfl, hs.step⟩)
          | exact Fin.result (O' := dkO d bm (stepD (appD1 D n b)).2 _ (G38 ++ R)) (.inr rfl) rfl rfl drop_ (by unfold appendD; rw [if_neg (by omega), if_neg (by simp [hc1]), if_neg (by omega), if_pos (by simpa using hc3)]; exact ⟨_, G38, rfl, rfl, hs.step⟩)

end Go.Proofs.Ythekokdpplobhaa.Eng

set_option linter.unusedVariables false
set_option linter.unusedSimpArgs false
namespace Go.Proofs.Ythekokdpplobhaa.Eng

/-- What Open comes to: the error, the disk then. The records are those at the beginning of the file. -/
def openT (D : Dk) (file : Int) : Int × Dk :=
  if endP (getF D.fs file).bs (recsP (getF D.fs file).bs).length < (getF D.fs file).bs.length then truncD D file (endP (getF D.fs file).bs (recsP (getF D.fs file).bs).length : Nat) else (0, D)
def openD (D : Dk) (file : Int) : Int × Dk :=
  if (readD D file).2 ≠ 0 then ((readD D file).2, D)
  else if (openT D file).1 ≠ 0 then openT D file else syncD (openT D file).2

abbrev lgO (lg d : Nat) (file n : Int) (down : Bool) : Nat × Ent := (lg, ⟨0, false, [Ptr d 0, I file, I n, .bool down]⟩)

theorem openNil_ok (O : Objs) (file : Int) : Spec Try.prog false 30 #[.pointer none, I file] O fun v O' => v = .tuple #[.pointer none, .slice none 0 0, I 1] ∧ O' = O := by
  refine Spec.enter (args := [_, _]) (m := 49) Try.func30 rfl rfl (by decide +kernel) fun h0 => ?_
  refine WX.seq ?_
  refine WX.region rfl ?_
  refine WXL.assign Met.none rfl ?_
  refine WXL.assign Met.none rfl ?_
  refine WXL.assign Met.none rfl ?_
  refine WXL.nil ?_
  refine Fin.then_normal ?_
  refine WX.seq ?_
  refine WX.seq ?_
  refine WX.region rfl ?_
  refine WXL.move Met.none rfl ?_
  refine WXL.eqNilP Met.none rfl rfl Try.underlying51 ?_
  refine WXL.nil ?_
  refine Fin.then_normal ?_
  refine WX.cond rfl (fun hc0 => ?_) (fun hc0 => ?_)
  · try simp only [cnd] at hc0
    refine WX.seq ?_
    refine WX.region rfl ?_
    refine WXL.assign Met.none rfl ?_
    refine WXL.assign Met.none rfl ?_
    refine WXL.assign Met.none rfl ?_
    refine WXL.nil ?_
    refine Fin.then_normal ?_
    refine WX.ret ?_
    refine Fin.then_ret ?_
    exact Fin.result (O' := O) (.inr rfl) rfl rfl drop_ ⟨rfl, rfl⟩
  · try simp only [cnd] at hc0
    exact (by simp at hc0) --end

theorem trunc_err {D : Dk} {n size : Int} : (truncD D n size).1 = 0 ∨ (truncD D n size).1 = 1 ∨ (truncD D n size).1 = 23 := by
  unfold truncD
  split
  · exact .inr (.inl rfl)
  · split
    · exact .inr (.inr rfl)
    · split
      · exact .inr (.inr rfl)
      · exact .inl rfl

theorem open_ok (R : Objs) {R0 : Objs} (d bm : Nat) (D : Dk) (mx : MapX) (file : Int) (hD : DkI R0 D mx) (hi : ∀ g, Sat g R → Sat g R0) (hl : (getF D.fs file).bs.length ≤ 100000) :
    Spec Try.prog false 30 #[Ptr d 0, I file] (dkO d bm D mx R) fun v O' => ∃ mx',
      (((openD D file).1 = 0 ∧ ∃ lg ao co vs Gg Rg, v = .tuple #[Ptr lg 0, .slice ao (recsP (getF D.fs file).bs).length co, I 0] ∧ Grow 1 ao (recsP (getF D.fs file).bs).length co vs Gg ∧ AreB Rg vs (recsP (getF D.fs file).bs) ∧
          O' = lgO lg d file (recsP (getF D.fs file).bs).length false :: dkO d bm (openD D file).2 mx' (Gg ++ (Rg ++ R)) ∧ DkI R0 (openD D file).2 mx') ∨
        ((openD D file).1 ≠ 0 ∧ ∃ N, v = .tuple #[.pointer none, .slice none 0 0, I (openD D file).1] ∧ O' = dkO d bm (openD D file).2 mx' (N ++ R) ∧ DkI R0 (openD D file).2 mx')) := by
  obtain ⟨fa, fc, hfv, hrow, hnil, hB⟩ := hD.di.get file
  have hrd : readD D file = ([], 1) ∨ readD D file = ([], 23) ∨ readD D file = ((getF D.fs file).bs, 0) := by
    unfold readD
    split
    · exact .inl rfl
    · split
      · exact .inr (.inl rfl)
      · exact .inr (.inr rfl)
  obtain ⟨b, hb⟩ : ∃ b, b = (getF D.fs file).bs := ⟨_, rfl⟩
  have hend := endP_le b (recsP b).length
  have hT1 : endP b (recsP b).length < b.length → openT D file = truncD D file (endP b (recsP b).length : Nat) := fun q => by
    unfold openT
    rw [← hb, if_pos q]
  have hT2 : ¬ endP b (recsP b).length < b.length → openT D file = (0, D) := fun q => by
    unfold openT
    rw [← hb, if_neg q]
  rw [← hb] at hrd hl hB ⊢
  refine Spec.enter (args := [_, _]) (m := 49) Try.func30 rfl rfl (by decide +kernel) fun h0 => ?_
  refine WX.seq ?_
  refine WX.region rfl ?_
  refine WXL.assign Met.none rfl ?_
  refine WXL.assign Met.none rfl ?_
  refine WXL.assign Met.none rfl ?_
  refine WXL.nil ?_
  refine Fin.then_normal ?_
  refine WX.seq ?_
  refine WX.seq ?_
  refine WX.region rfl ?_
  refine WXL.move Met.none rfl ?_
  refine WXL.eqNilP Met.none rfl rfl Try.underlying51 ?_
  refine WXL.nil ?_
  refine Fin.then_normal ?_
  refine WX.cond rfl (fun hc0 => ?_) (fun hc0 => ?_)
  · try simp only [cnd] at hc0
    exact (by simp at hc0) --end
  · try simp only [cnd] at hc0
    refine WX.skip ?_
    refine Fin.then_normal ?_
    refine WX.seq ?_
    refine WX.region rfl ?_
    refine WXL.move Met.none rfl ?_
    refine WXL.move Met.none rfl ?_
    refine WXL.cl (O1 := _) Met.none rfl (fnOk_of Try.func53 (by decide +kernel)) rfl (fun _ h => h) (diskRead_ok R d bm D mx file hD hi) (fun v O' hp => ?_)
    obtain ⟨a1, c1, G1, rfl, hG1, rfl⟩ := hp
    refine WXL.move Met.none rfl ?_
    refine WXL.extract Met.none rfl rfl ?_
    refine WXL.extract Met.none rfl rfl ?_
    refine WXL.assign Met.none rfl ?_
    refine WXL.assign Met.none rfl ?_
    refine WXL.nil ?_
    refine Fin.then_normal ?_
    refine WX.seq ?_
    refine WX.seq ?_
    refine WX.region rfl ?_
    refine WXL.move Met.none rfl ?_
    refine WXL.bin Met.none rfl rfl rfl ?_
    refine WXL.nil ?_
    refine Fin.then_normal ?_
    refine WX.cond rfl (fun hc1 => ?_) (fun hc1 => ?_)
    · try simp only [cnd] at hc1
      refine WX.seq ?_
      refine WX.region rfl ?_
      refine WXL.move Met.none rfl ?_
      refine WXL.assign Met.none rfl ?_
      refine WXL.assign Met.none rfl ?_
      refine WXL.assign Met.none rfl ?_
      refine WXL.nil ?_
      refine Fin.then_normal ?_
      refine WX.ret ?_
      refine Fin.then_ret ?_
      first
      | (exfalso; omega)
      | (exfalso; simp at hc3; done)
      | exact Fin.result (O' := dkO d bm D mx ([] ++ R)) (.inr rfl) rfl rfl sub_ (by
          have hop : openD D file = ((readD D file).2, D) := by unfold openD; rw [if_pos hc1]
          rw [hop]
          exact ⟨mx, .inr ⟨hc1, [], rfl, rfl, hD⟩⟩)
      | exact Fin.result (O' := dkO d bm (openT D file).2 mx1 ((Gg ++ Rg) ++ R)) (.inr rfl) rfl rfl sub_ (by
          rw [hop]
          rw [if_pos hc3]
          exact ⟨mx1, .inr ⟨hc4, Gg ++ Rg, rfl, rfl, hD1⟩⟩)
      | exact Fin.result (O' := dkO d bm (syncD (openT D file).2).2 mx2 ((Gg ++ Rg) ++ R)) (.inr rfl) rfl rfl sub_ (by
          rw [hop]
          rw [if_neg (by omega)]
          exact ⟨mx2, .inr ⟨hc4, Gg ++ Rg, rfl, rfl, hD2⟩⟩)
      | exact Fin.result (O' := dkO d bm (syncD D).2 mx2 ((Gg ++ Rg) ++ R)) (.inr rfl) rfl rfl sub_ (by
          rw [hop]
          rw [if_neg (by rw [hT]; simp), hT]
          exact ⟨mx2, .inr ⟨hc4, Gg ++ Rg, rfl, rfl, hD2⟩⟩)
      | exact Fin.result (O' := (b47, ⟨0, false, [Ptr d 0, I file, .int .i64 ((recsP b).length : Nat), .bool false]⟩) :: dkO d bm (syncD D).2 mx2 (Gg ++ (Rg ++ R))) (.inr rfl) rfl rfl sub_ (by
          rw [hop]
          rw [if_neg (by rw [hT]; simp), hT]
          exact ⟨mx2, .inl ⟨by omega, b47, ao, co, vs, Gg, Rg, rfl, hGg, hRg, rfl, hD2⟩⟩)
      | exact Fin.result (O' := (b47, ⟨0, false, [Ptr d 0, I file, .int .i64 ((recsP b).length : Nat), .bool false]⟩) :: dkO d bm (syncD (openT D file).2).2 mx2 (Gg ++ (Rg ++ R))) (.inr rfl) rfl rfl sub_ (by
          rw [hop]
          rw [if_neg (by omega)]
          exact ⟨mx2, .inl ⟨by omega, b47, ao, co, vs, Gg, Rg, rfl, hGg, hRg, rfl, hD2⟩⟩)
    · try simp only [cnd] at hc1
      refine WX.skip ?_
      refine Fin.then_normal ?_
      refine WX.seq ?_
      have hr0 : readD D file = (b, 0) := by
        rcases hrd with q | q | q
        · rw [q] at hc1; simp at hc1
        · rw [q] at hc1; simp at hc1
        · exact q
      have hop : openD D file = if (openT D file).1 ≠ 0 then openT D file else syncD (openT D file).2 := by
        unfold openD
        rw [hr0, if_neg (by simp)]
      rw [hr0] at hG1 ⊢
      dsimp only at hG1 ⊢
      refine WX.region rfl ?_
      refine WXL.move Met.none rfl ?_
      refine WXL.cl (O1 := _) Met.none rfl (fnOk_of Try.func15 (by decide +kernel)) rfl (fun _ h => h) (scan_own _ b a1 c1 hB hl (Rowy.cons (Rowy.cons hG1.rowy)) (fun q => (hG1.nil0 q).1)) (fun v O' hp => ?_)
      obtain ⟨ao, co, vs, Gg, Rg, rfl, hGg, hRg, rfl⟩ := hp
      refine WXL.move Met.none rfl ?_
      refine WXL.extract Met.none rfl rfl ?_
      refine WXL.extract Met.none rfl rfl ?_
      refine WXL.assign Met.none rfl ?_
      refine WXL.assign Met.none rfl ?_
      refine WXL.nil ?_
      refine Fin.then_normal ?_
      refine WX.seq ?_
      refine WX.seq ?_
      refine WX.re (O' := dkO d bm D mx (Gg ++ (Rg ++ R))) ?_
      refine WX.region rfl ?_
      refine WXL.move Met.none rfl ?_
      refine WXL.move Met.none rfl ?_
      refine WXL.len Met.none rfl Try.underlying23 ?_
      refine WXL.bin Met.none rfl rfl rfl ?_
      refine WXL.nil ?_
      refine Fin.then_normal ?_
      refine WX.cond rfl (fun hc2 => ?_) (fun hc2 => ?_)
      · try simp only [cnd] at hc2
        refine WX.region rfl ?_
        refine WXL.move Met.none rfl ?_
        refine WXL.move Met.none rfl ?_
        refine WXL.move Met.none rfl ?_
        refine WXL.cl (O1 := _) Met.none rfl (fnOk_of Try.func54 (by decide +kernel)) rfl (fun _ h => h) (trunc_ok (Gg ++ (Rg ++ R)) d bm D mx file (endP b (recsP b).length : Nat) hD (fun g hg => hi g hg.app_right.app_right)) (fun v O' hp => ?_)
        obtain ⟨mx1, rfl, rfl, hD1⟩ := hp
        have hT := hT1 (by omega)
        rw [← hT] at hD1 ⊢
        refine WXL.assign Met.none rfl ?_
        refine WXL.nil ?_
        refine Fin.then_normal ?_
        refine WX.seq ?_
        refine WX.seq ?_
        refine WX.region rfl ?_
        refine WXL.move Met.none rfl ?_
        refine WXL.bin Met.none rfl rfl rfl ?_
        refine WXL.nil ?_
        refine Fin.then_normal ?_
        refine WX.cond rfl (fun hc3 => ?_) (fun hc3 => ?_)
        · try simp only [cnd] at hc3
          refine WX.region rfl ?_
          refine WXL.move Met.none rfl ?_
          refine WXL.cl (O1 := _) Met.none rfl (fnOk_of Try.func55 (by decide +kernel)) rfl (fun _ h => h) ((by first | exact sync_ok (Gg ++ (Rg ++ R)) d bm (openT D file).2 mx1 hD1 | exact sync_ok (Gg ++ (Rg ++ R)) d bm D mx hD)) (fun v O' hp => ?_)
          obtain ⟨mx2, rfl, rfl, hD2⟩ := hp
          refine WXL.assign Met.none rfl ?_
          refine WXL.nil ?_
          refine Fin.then_normal ?_
          refine WX.seq ?_
          refine WX.seq ?_
          refine WX.region rfl ?_
          refine WXL.move Met.none rfl ?_
          refine WXL.bin Met.none rfl rfl rfl ?_
          refine WXL.nil ?_
          refine Fin.then_normal ?_
          refine WX.cond rfl (fun hc4 => ?_) (fun hc4 => ?_)
          · try simp only [cnd] at hc4
            refine WX.seq ?_
            refine WX.region rfl ?_
            refine WXL.move Met.none rfl ?_
            refine WXL.assign Met.none rfl ?_
            refine WXL.assign Met.none rfl ?_
            refine WXL.assign Met.none rfl ?_
            refine WXL.nil ?_
            refine Fin.then_normal ?_
            refine WX.ret ?_
            refine Fin.then_ret ?_
            first
            | (exfalso; omega)
            | (exfalso; simp at hc3; done)
            | exact Fin.result (O' := dkO d bm D mx ([] ++ R)) (.inr rfl) rfl rfl sub_ (by
                have hop : openD D file = ((readD D file).2, D) := by unfold openD; rw [if_pos hc1]
                rw [hop]
                exact ⟨mx, .inr ⟨hc1, [], rfl, rfl, hD⟩⟩)
            | exact Fin.result (O' := dkO d bm (openT D file).2 mx1 ((Gg ++ Rg) ++ R)) (.inr rfl) rfl rfl sub_ (by
                rw [hop]
                rw [if_pos hc3]
                exact ⟨mx1, .inr ⟨hc4, Gg ++ Rg, rfl, rfl, hD1⟩⟩)
            | exact Fin.result (O' := dkO d bm (syncD (openT D file).2).2 mx2 ((Gg ++ Rg) ++ R)) (.inr rfl) rfl rfl sub_ (by
                rw [hop]
                rw [if_neg (by omega)]
                exact ⟨mx2, .inr ⟨hc4, Gg ++ Rg, rfl, rfl, hD2⟩⟩)
            | exact Fin.result (O' := dkO d bm (syncD D).2 mx2 ((Gg ++ Rg) ++ R)) (.inr rfl) rfl rfl sub_ (by
                rw [hop]
                rw [if_neg (by rw [hT]; simp), hT]
                exact ⟨mx2, .inr ⟨hc4, Gg ++ Rg, rfl, rfl, hD2⟩⟩)
            | exact Fin.result (O' := (b47, ⟨0, false, [Ptr d 0, I file, .int .i64 ((recsP b).length : Nat), .bool false]⟩) :: dkO d bm (syncD D).2 mx2 (Gg ++ (Rg ++ R))) (.inr rfl) rfl rfl sub_ (by
                rw [hop]
                rw [if_neg (by rw [hT]; simp), hT]
                exact ⟨mx2, .inl ⟨by omega, b47, ao, co, vs, Gg, Rg, rfl, hGg, hRg, rfl, hD2⟩⟩)
            | exact Fin.result (O' := (b47, ⟨0, false, [Ptr d 0, I file, .int .i64 ((recsP b).length : Nat), .bool false]⟩) :: dkO d bm (syncD (openT D file).2).2 mx2 (Gg ++ (Rg ++ R))) (.inr rfl) rfl rfl sub_ (by
                rw [hop]
                rw [if_neg (by omega)]
                exact ⟨mx2, .inl ⟨by omega, b47, ao, co, vs, Gg, Rg, rfl, hGg, hRg, rfl, hD2⟩⟩)
          · try simp only [cnd] at hc4
            refine WX.skip ?_
            refine Fin.then_normal ?_
            refine WX.seq ?_
            refine WX.region rfl ?_
            refine WXL.move Met.none rfl ?_
            refine WXL.move Met.none rfl ?_
            refine WXL.move Met.none rfl ?_
            refine WXL.len Met.none rfl Try.underlying27 ?_
            refine WXL.build (c := [_, _, _, _]) Met.none rfl zero89 places89 rfl ?_
            refine WXL.box (c := [_, _, _, _]) Met.none rfl rfl rfl (fun b47 => ?_)
            refine WXL.move Met.none rfl ?_
            refine WXL.assign Met.none rfl ?_
            refine WXL.assign Met.none rfl ?_
            refine WXL.assign Met.none rfl ?_
            refine WXL.nil ?_
            refine Fin.then_normal ?_
            refine WX.ret ?_
            first
            | (exfalso; omega)
            | (exfalso; simp at hc3; done)
            | exact Fin.result (O' := dkO d bm D mx ([] ++ R)) (.inr rfl) rfl rfl sub_ (by
                have hop : openD D file = ((readD D file).2, D) := by unfold openD; rw [if_pos hc1]
                rw [hop]
                exact ⟨mx, .inr ⟨hc1, [], rfl, rfl, hD⟩⟩)
            | exact Fin.result (O' := dkO d bm (openT D file).2 mx1 ((Gg ++ Rg) ++ R)) (.inr rfl) rfl rfl sub_ (by
                rw [hop]
                rw [if_pos hc3]
                exact ⟨mx1, .inr ⟨hc4, Gg ++ Rg, rfl, rfl, hD1⟩⟩)
            | exact Fin.result (O' := dkO d bm (syncD (openT D file).2).2 mx2 ((Gg ++ Rg) ++ R)) (.inr rfl) rfl rfl sub_ (by
                rw [hop]
                rw [if_neg (by omega)]
                exact ⟨mx2, .inr ⟨hc4, Gg ++ Rg, rfl, rfl, hD2⟩⟩)
            | exact Fin.result (O' := dkO d bm (syncD D).2 mx2 ((Gg ++ Rg) ++ R)) (.inr rfl) rfl rfl sub_ (by
                rw [hop]
                rw [if_neg (by rw [hT]; simp), hT]
                exact ⟨mx2, .inr ⟨hc4, Gg ++ Rg, rfl, rfl, hD2⟩⟩)
            | exact Fin.result (O' := (b47, ⟨0, false, [Ptr d 0, I file, .int .i64 ((recsP b).length : Nat), .bool false]⟩) :: dkO d bm (syncD D).2 mx2 (Gg ++ (Rg ++ R))) (.inr rfl) rfl rfl sub_ (by
                rw [hop]
                rw [if_neg (by rw [hT]; simp), hT]
                exact ⟨mx2, .inl ⟨by omega, b47, ao, co, vs, Gg, Rg, rfl, hGg, hRg, rfl, hD2⟩⟩)
            | exact Fin.result (O' := (b47, ⟨0, false, [Ptr d 0, I file, .int .i64 ((recsP b).length : Nat), .bool false]⟩) :: dkO d bm (syncD (openT D file).2).2 mx2 (Gg ++ (Rg ++ R))) (.inr rfl) rfl rfl sub_ (by
                rw [hop]
                rw [if_neg (by omega)]
                exact ⟨mx2, .inl ⟨by omega, b47, ao, co, vs, Gg, Rg, rfl, hGg, hRg, rfl, hD2⟩⟩)
        · try simp only [cnd] at hc3
          refine WX.skip ?_
          refine Fin.then_normal ?_
          refine WX.seq ?_
          refine WX.seq ?_
          refine WX.region rfl ?_
          refine WXL.move Met.none rfl ?_
          refine WXL.bin Met.none rfl rfl rfl ?_
          refine WXL.nil ?_
          refine Fin.then_normal ?_
          refine WX.cond rfl (fun hc4 => ?_) (fun hc4 => ?_)
          · try simp only [cnd] at hc4
            refine WX.seq ?_
            refine WX.region rfl ?_
            refine WXL.move Met.none rfl ?_
            refine WXL.assign Met.none rfl ?_
            refine WXL.assign Met.none rfl ?_
            refine WXL.assign Met.none rfl ?_
            refine WXL.nil ?_
            refine Fin.then_normal ?_
            refine WX.ret ?_
            refine Fin.then_ret ?_
            first
            | (exfalso; omega)
            | (exfalso; simp at hc3; done)
            | exact Fin.result (O' := dkO d bm D mx ([] ++ R)) (.inr rfl) rfl rfl sub_ (by
                have hop : openD D file = ((readD D file).2, D) := by unfold openD; rw [if_pos hc1]
                rw [hop]
                exact ⟨mx, .inr ⟨hc1, [], rfl, rfl, hD⟩⟩)
            | exact Fin.result (O' := dkO d bm (openT D file).2 mx1 ((Gg ++ Rg) ++ R)) (.inr rfl) rfl rfl sub_ (by
                rw [hop]
                rw [if_pos hc3]
                exact ⟨mx1, .inr ⟨hc4, Gg ++ Rg, rfl, rfl, hD1⟩⟩)
            | exact Fin.result (O' := dkO d bm (syncD (openT D file).2).2 mx2 ((Gg ++ Rg) ++ R)) (.inr rfl) rfl rfl sub_ (by
                rw [hop]
                rw [if_neg (by omega)]
                exact ⟨mx2, .inr ⟨hc4, Gg ++ Rg, rfl, rfl, hD2⟩⟩)
            | exact Fin.result (O' := dkO d bm (syncD D).2 mx2 ((Gg ++ Rg) ++ R)) (.inr rfl) rfl rfl sub_ (by
                rw [hop]
                rw [if_neg (by rw [hT]; simp), hT]
                exact ⟨mx2, .inr ⟨hc4, Gg ++ Rg, rfl, rfl, hD2⟩⟩)
            | exact Fin.result (O' := (b47, ⟨0, false, [Ptr d 0, I file, .int .i64 ((recsP b).length : Nat), .bool false]⟩) :: dkO d bm (syncD D).2 mx2 (Gg ++ (Rg ++ R))) (.inr rfl) rfl rfl sub_ (by
                rw [hop]
                rw [if_neg (by rw [hT]; simp), hT]
                exact ⟨mx2, .inl ⟨by omega, b47, ao, co, vs, Gg, Rg, rfl, hGg, hRg, rfl, hD2⟩⟩)
            | exact Fin.result (O' := (b47, ⟨0, false, [Ptr d 0, I file, .int .i64 ((recsP b).length : Nat), .bool false]⟩) :: dkO d bm (syncD (openT D file).2).2 mx2 (Gg ++ (Rg ++ R))) (.inr rfl) rfl rfl sub_ (by
                rw [hop]
                rw [if_neg (by omega)]
                exact ⟨mx2, .inl ⟨by omega, b47, ao, co, vs, Gg, Rg, rfl, hGg, hRg, rfl, hD2⟩⟩)
          · try simp only [cnd] at hc4
            refine WX.skip ?_
            refine Fin.then_normal ?_
            refine WX.seq ?_
            refine WX.region rfl ?_
            refine WXL.move Met.none rfl ?_
            refine WXL.move Met.none rfl ?_
            refine WXL.move Met.none rfl ?_
            refine WXL.len Met.none rfl Try.underlying27 ?_
            refine WXL.build (c := [_, _, _, _]) Met.none rfl zero89 places89 rfl ?_
            refine WXL.box (c := [_, _, _, _]) Met.none rfl rfl rfl (fun b47 => ?_)
            refine WXL.move Met.none rfl ?_
            refine WXL.assign Met.none rfl ?_
            refine WXL.assign Met.none rfl ?_
            refine WXL.assign Met.none rfl ?_
            refine WXL.nil ?_
            refine Fin.then_normal ?_
            refine WX.ret ?_
            first
            | (exfalso; omega)
            | (exfalso; simp at hc3; done)
            | exact Fin.result (O' := dkO d bm D mx ([] ++ R)) (.inr rfl) rfl rfl sub_ (by
                have hop : openD D file = ((readD D file).2, D) := by unfold openD; rw [if_pos hc1]
                rw [hop]
                exact ⟨mx, .inr ⟨hc1, [], rfl, rfl, hD⟩⟩)
            | exact Fin.result (O' := dkO d bm (openT D file).2 mx1 ((Gg ++ Rg) ++ R)) (.inr rfl) rfl rfl sub_ (by
                rw [hop]
                rw [if_pos hc3]
                exact ⟨mx1, .inr ⟨hc4, Gg ++ Rg, rfl, rfl, hD1⟩⟩)
            | exact Fin.result (O' := dkO d bm (syncD (openT D file).2).2 mx2 ((Gg ++ Rg) ++ R)) (.inr rfl) rfl rfl sub_ (by
                rw [hop]
                rw [if_neg (by omega)]
                exact ⟨mx2, .inr ⟨hc4, Gg ++ Rg, rfl, rfl, hD2⟩⟩)
            | exact Fin.result (O' := dkO d bm (syncD D).2 mx2 ((Gg ++ Rg) ++ R)) (.inr rfl) rfl rfl sub_ (by
                rw [hop]
                rw [if_neg (by rw [hT]; simp), hT]
                exact ⟨mx2, .inr ⟨hc4, Gg ++ Rg, rfl, rfl, hD2⟩⟩)
            | exact Fin.result (O' := (b47, ⟨0, false, [Ptr d 0, I file, .int .i64 ((recsP b).length : Nat), .bool false]⟩) :: dkO d bm (syncD D).2 mx2 (Gg ++ (Rg ++ R))) (.inr rfl) rfl rfl sub_ (by
                rw [hop]
                rw [if_neg (by rw [hT]; simp), hT]
                exact ⟨mx2, .inl ⟨by omega, b47, ao, co, vs, Gg, Rg, rfl, hGg, hRg, rfl, hD2⟩⟩)
            | exact Fin.result (O' := (b47, ⟨0, false, [Ptr d 0, I file, .int .i64 ((recsP b).length : Nat), .bool false]⟩) :: dkO d bm (syncD (openT D file).2).2 mx2 (Gg ++ (Rg ++ R))) (.inr rfl) rfl rfl sub_ (by
                rw [hop]
                rw [if_neg (by omega)]
                exact ⟨mx2, .inl ⟨by omega, b47, ao, co, vs, Gg, Rg, rfl, hGg, hRg, rfl, hD2⟩⟩)
      · try simp only [cnd] at hc2
        have hT := hT2 (by omega)
        refine WX.skip ?_
        refine Fin.then_normal ?_
        refine WX.seq ?_
        refine WX.seq ?_
        refine WX.region rfl ?_
        refine WXL.move Met.none rfl ?_
        refine WXL.bin Met.none rfl rfl rfl ?_
        refine WXL.nil ?_
        refine Fin.then_normal ?_
        refine WX.cond rfl (fun hc3 => ?_) (fun hc3 => ?_)
        · try simp only [cnd] at hc3
          refine WX.region rfl ?_
          refine WXL.move Met.none rfl ?_
          refine WXL.cl (O1 := _) Met.none rfl (fnOk_of Try.func55 (by decide +kernel)) rfl (fun _ h => h) ((by first | exact sync_ok (Gg ++ (Rg ++ R)) d bm (openT D file).2 mx1 hD1 | exact sync_ok (Gg ++ (Rg ++ R)) d bm D mx hD)) (fun v O' hp => ?_)
          obtain ⟨mx2, rfl, rfl, hD2⟩ := hp
          refine WXL.assign Met.none rfl ?_
          refine WXL.nil ?_
          refine Fin.then_normal ?_
          refine WX.seq ?_
          refine WX.seq ?_
          refine WX.region rfl ?_
          refine WXL.move Met.none rfl ?_
          refine WXL.bin Met.none rfl rfl rfl ?_
          refine WXL.nil ?_
          refine Fin.then_normal ?_
          refine WX.cond rfl (fun hc4 => ?_) (fun hc4 => ?_)
          · try simp only [cnd] at hc4
            refine WX.seq ?_
            refine WX.region rfl ?_
            refine WXL.move Met.none rfl ?_
            refine WXL.assign Met.none rfl ?_
            refine WXL.assign Met.none rfl ?_
            refine WXL.assign Met.none rfl ?_
            refine WXL.nil ?_
            refine Fin.then_normal ?_
            refine WX.ret ?_
            refine Fin.then_ret ?_
            first
            | (exfalso; omega)
            | (exfalso; simp at hc3; done)
            | exact Fin.result (O' := dkO d bm D mx ([] ++ R)) (.inr rfl) rfl rfl sub_ (by
                have hop : openD D file = ((readD D file).2, D) := by unfold openD; rw [if_pos hc1]
                rw [hop]
                exact ⟨mx, .inr ⟨hc1, [], rfl, rfl, hD⟩⟩)
            | exact Fin.result (O' := dkO d bm (openT D file).2 mx1 ((Gg ++ Rg) ++ R)) (.inr rfl) rfl rfl sub_ (by
                rw [hop]
                rw [if_pos hc3]
                exact ⟨mx1, .inr ⟨hc4, Gg ++ Rg, rfl, rfl, hD1⟩⟩)
            | exact Fin.result (O' := dkO d bm (syncD (openT D file).2).2 mx2 ((Gg ++ Rg) ++ R)) (.inr rfl) rfl rfl sub_ (by
                rw [hop]
                rw [if_neg (by omega)]
                exact ⟨mx2, .inr ⟨hc4, Gg ++ Rg, rfl, rfl, hD2⟩⟩)
            | exact Fin.result (O' := dkO d bm (syncD D).2 mx2 ((Gg ++ Rg) ++ R)) (.inr rfl) rfl rfl sub_ (by
                rw [hop]
                rw [if_neg (by rw [hT]; simp), hT]
                exact ⟨mx2, .inr ⟨hc4, Gg ++ Rg, rfl, rfl, hD2⟩⟩)
            | exact Fin.result (O' := (b47, ⟨0, false, [Ptr d 0, I file, .int .i64 ((recsP b).length : Nat), .bool false]⟩) :: dkO d bm (syncD D).2 mx2 (Gg ++ (Rg ++ R))) (.inr rfl) rfl rfl sub_ (by
                rw [hop]
                rw [if_neg (by rw [hT]; simp), hT]
                exact ⟨mx2, .inl ⟨by omega, b47, ao, co, vs, Gg, Rg, rfl, hGg, hRg, rfl, hD2⟩⟩)
            | exact Fin.result (O' := (b47, ⟨0, false, [Ptr d 0, I file, .int .i64 ((recsP b).length : Nat), .bool false]⟩) :: dkO d bm (syncD (openT D file).2).2 mx2 (Gg ++ (Rg ++ R))) (.inr rfl) rfl rfl sub_ (by
                rw [hop]
                rw [if_neg (by omega)]
                exact ⟨mx2, .inl ⟨by omega, b47, ao, co, vs, Gg, Rg, rfl, hGg, hRg, rfl, hD2⟩⟩)
          · try simp only [cnd] at hc4
            refine WX.skip ?_
            refine Fin.then_normal ?_
            refine WX.seq ?_
            refine WX.region rfl ?_
            refine WXL.move Met.none rfl ?_
            refine WXL.move Met.none rfl ?_
            refine WXL.move Met.none rfl ?_
            refine WXL.len Met.none rfl Try.underlying27 ?_
            refine WXL.build (c := [_, _, _, _]) Met.none rfl zero89 places89 rfl ?_
            refine WXL.box (c := [_, _, _, _]) Met.none rfl rfl rfl (fun b47 => ?_)
            refine WXL.move Met.none rfl ?_
            refine WXL.assign Met.none rfl ?_
            refine WXL.assign Met.none rfl ?_
            refine WXL.assign Met.none rfl ?_
            refine WXL.nil ?_
            refine Fin.then_normal ?_
            refine WX.ret ?_
            first
            | (exfalso; omega)
            | (exfalso; simp at hc3; done)
            | exact Fin.result (O' := dkO d bm D mx ([] ++ R)) (.inr rfl) rfl rfl sub_ (by
                have hop : openD D file = ((readD D file).2, D) := by unfold openD; rw [if_pos hc1]
                rw [hop]
                exact ⟨mx, .inr ⟨hc1, [], rfl, rfl, hD⟩⟩)
            | exact Fin.result (O' := dkO d bm (openT D file).2 mx1 ((Gg ++ Rg) ++ R)) (.inr rfl) rfl rfl sub_ (by
                rw [hop]
                rw [if_pos hc3]
                exact ⟨mx1, .inr ⟨hc4, Gg ++ Rg, rfl, rfl, hD1⟩⟩)
            | exact Fin.result (O' := dkO d bm (syncD (openT D file).2).2 mx2 ((Gg ++ Rg) ++ R)) (.inr rfl) rfl rfl sub_ (by
                rw [hop]
                rw [if_neg (by omega)]
                exact ⟨mx2, .inr ⟨hc4, Gg ++ Rg, rfl, rfl, hD2⟩⟩)
            | exact Fin.result (O' := dkO d bm (syncD D).2 mx2 ((Gg ++ Rg) ++ R)) (.inr rfl) rfl rfl sub_ (by
                rw [hop]
                rw [if_neg (by rw [hT]; simp), hT]
                exact ⟨mx2, .inr ⟨hc4, Gg ++ Rg, rfl, rfl, hD2⟩⟩)
            | exact Fin.result (O' := (b47, ⟨0, false, [Ptr d 0, I file, .int .i64 ((recsP b).length : Nat), .bool false]⟩) :: dkO d bm (syncD D).2 mx2 (Gg ++ (Rg ++ R))) (.inr rfl) rfl rfl sub_ (by
                rw [hop]
                rw [if_neg (by rw [hT]; simp), hT]
                exact ⟨mx2, .inl ⟨by omega, b47, ao, co, vs, Gg, Rg, rfl, hGg, hRg, rfl, hD2⟩⟩)
            | exact Fin.result (O' := (b47, ⟨0, false, [Ptr d 0, I file, .int .i64 ((recsP b).length : Nat), .bool false]⟩) :: dkO d bm (syncD (openT D file).2).2 mx2 (Gg ++ (Rg ++ R))) (.inr rfl) rfl rfl sub_ (by
                rw [hop]
                rw [if_neg (by omega)]
                exact ⟨mx2, .inl ⟨by omega, b47, ao, co, vs, Gg, Rg, rfl, hGg, hRg, rfl, hD2⟩⟩)
        · try simp only [cnd] at hc3
          refine WX.skip ?_
          refine Fin.then_normal ?_
          refine WX.seq ?_
          refine WX.seq ?_
          refine WX.region rfl ?_
          refine WXL.move Met.none rfl ?_
          refine WXL.bin Met.none rfl rfl rfl ?_
          refine WXL.nil ?_
          refine Fin.then_normal ?_
          refine WX.cond rfl (fun hc4 => ?_) (fun hc4 => ?_)
          · try simp only [cnd] at hc4
            refine WX.seq ?_
            refine WX.region rfl ?_
            refine WXL.move Met.none rfl ?_
            refine WXL.assign Met.none rfl ?_
            refine WXL.assign Met.none rfl ?_
            refine WXL.assign Met.none rfl ?_
            refine WXL.nil ?_
            refine Fin.then_normal ?_
            refine WX.ret ?_
            refine Fin.then_ret ?_
            first
            | (exfalso; omega)
            | (exfalso; simp at hc3; done)
            | exact Fin.result (O' := dkO d bm D mx ([] ++ R)) (.inr rfl) rfl rfl sub_ (by
                have hop : openD D file = ((readD D file).2, D) := by unfold openD; rw [if_pos hc1]
                rw [hop]
                exact ⟨mx, .inr ⟨hc1, [], rfl, rfl, hD⟩⟩)
            | exact Fin.result (O' := dkO d bm (openT D file).2 mx1 ((Gg ++ Rg) ++ R)) (.inr rfl) rfl rfl sub_ (by
                rw [hop]
                rw [if_pos hc3]
                exact ⟨mx1, .inr ⟨hc4, Gg ++ Rg, rfl, rfl, hD1⟩⟩)
            | exact Fin.result (O' := dkO d bm (syncD (openT D file).2).2 mx2 ((Gg ++ Rg) ++ R)) (.inr rfl) rfl rfl sub_ (by
                rw [hop]
                rw [if_neg (by omega)]
                exact ⟨mx2, .inr ⟨hc4, Gg ++ Rg, rfl, rfl, hD2⟩⟩)
            | exact Fin.result (O' := dkO d bm (syncD D).2 mx2 ((Gg ++ Rg) ++ R)) (.inr rfl) rfl rfl sub_ (by
                rw [hop]
                rw [if_neg (by rw [hT]; simp), hT]
                exact ⟨mx2, .inr ⟨hc4, Gg ++ Rg, rfl, rfl, hD2⟩⟩)
            | exact Fin.result (O' := (b47, ⟨0, false, [Ptr d 0, I file, .int .i64 ((recsP b).length : Nat), .bool false]⟩) :: dkO d bm (syncD D).2 mx2 (Gg ++ (Rg ++ R))) (.inr rfl) rfl rfl sub_ (by
                rw [hop]
                rw [if_neg (by rw [hT]; simp), hT]
                exact ⟨mx2, .inl ⟨by omega, b47, ao, co, vs, Gg, Rg, rfl, hGg, hRg, rfl, hD2⟩⟩)
            | exact Fin.result (O' := (b47, ⟨0, false, [Ptr d 0, I file, .int .i64 ((recsP b).length : Nat), .bool false]⟩) :: dkO d bm (syncD (openT D file).2).2 mx2 (Gg ++ (Rg ++ R))) (.inr rfl) rfl rfl sub_ (by
                rw [hop]
                rw [if_neg (by omega)]
                exact ⟨mx2, .inl ⟨by omega, b47, ao, co, vs, Gg, Rg, rfl, hGg, hRg, rfl, hD2⟩⟩)
          · try simp only [cnd] at hc4
            refine WX.skip ?_
            refine Fin.then_normal ?_
            refine WX.seq ?_
            refine WX.region rfl ?_
            refine WXL.move Met.none rfl ?_
            refine WXL.move Met.none rfl ?_
            refine WXL.move Met.none rfl ?_
            refine WXL.len Met.none rfl Try.underlying27 ?_
            refine WXL.build (c := [_, _, _, _]) Met.none rfl zero89 places89 rfl ?_
            refine WXL.box (c := [_, _, _, _]) Met.none rfl rfl rfl (fun b47 => ?_)
            refine WXL.move Met.none rfl ?_
            refine WXL.assign Met.none rfl ?_
            refine WXL.assign Met.none rfl ?_
            refine WXL.assign Met.none rfl ?_
            refine WXL.nil ?_
            refine Fin.then_normal ?_
            refine WX.ret ?_
            first
            | (exfalso; omega)
            | (exfalso; simp at hc3; done)
            | exact Fin.result (O' := dkO d bm D mx ([] ++ R)) (.inr rfl) rfl rfl sub_ (by
                have hop : openD D file = ((readD D file).2, D) := by unfold openD; rw [if_pos hc1]
                rw [hop]
                exact ⟨mx, .inr ⟨hc1, [], rfl, rfl, hD⟩⟩)
            | exact Fin.result (O' := dkO d bm (openT D file).2 mx1 ((Gg ++ Rg) ++ R)) (.inr rfl) rfl rfl sub_ (by
                rw [hop]
                rw [if_pos hc3]
                exact ⟨mx1, .inr ⟨hc4, Gg ++ Rg, rfl, rfl, hD1⟩⟩)
            | exact Fin.result (O' := dkO d bm (syncD (openT D file).2).2 mx2 ((Gg ++ Rg) ++ R)) (.inr rfl) rfl rfl sub_ (by
                rw [hop]
                rw [if_neg (by omega)]
                exact ⟨mx2, .inr ⟨hc4, Gg ++ Rg, rfl, rfl, hD2⟩⟩)
            | exact Fin.result (O' := dkO d bm (syncD D).2 mx2 ((Gg ++ Rg) ++ R)) (.inr rfl) rfl rfl sub_ (by
                rw [hop]
                rw [if_neg (by rw [hT]; simp), hT]
                exact ⟨mx2, .inr ⟨hc4, Gg ++ Rg, rfl, rfl, hD2⟩⟩)
            | exact Fin.result (O' := (b47, ⟨0, false, [Ptr d 0, I file, .int .i64 ((recsP b).length : Nat), .bool false]⟩) :: dkO d bm (syncD D).2 mx2 (Gg ++ (Rg ++ R))) (.inr rfl) rfl rfl sub_ (by
                rw [hop]
                rw [if_neg (by rw [hT]; simp), hT]
                exact ⟨mx2, .inl ⟨by omega, b47, ao, co, vs, Gg, Rg, rfl, hGg, hRg, rfl, hD2⟩⟩)
            | exact Fin.result (O' := (b47, ⟨0, false, [Ptr d 0, I file, .int .i64 ((recsP b).length : Nat), .bool false]⟩) :: dkO d bm (syncD (openT D file).2).2 mx2 (Gg ++ (Rg ++ R))) (.inr rfl) rfl rfl sub_ (by
                rw [hop]
                rw [if_neg (by omega)]
                exact ⟨mx2, .inl ⟨by omega, b47, ao, co, vs, Gg, Rg, rfl, hGg, hRg, rfl, hD2⟩⟩)

end Go.Proofs.Ythekokdpplobhaa.Eng

set_option linter.unusedVariables false
set_option linter.unusedSimpArgs false
namespace Go.Proofs.Ythekokdpplobhaa.Eng

theorem frame_q (O : Objs) (n : Int) (b : List Int) (a : Option Addr) (c : Nat) (hn : In64 n) (hb : Bytes b) (hlen : b.length ≤ 100000) (hl : Src O 1 (.slice a b.length c) b.length (b.map B8)) :
    Spec Try.prog true 12 #[I n, .slice a b.length c] O fun v O' => ∃ a' c' G, v = .slice a' (frameB n b).length c' ∧ Grow 1 a' (frameB n b).length c' ((frameB n b).map B8) G ∧ O' = G ++ O :=
  (Spec.frame (Post := fun v N => ∃ a' c', v = .slice a' (frameB n b).length c' ∧ Grow 1 a' (frameB n b).length c' ((frameB n b).map B8) N)
    ((frame_ok (roO O) n b a c hn hb hlen hl.roh).mono fun v O' ⟨a', c', G, h1, h2, h3⟩ => ⟨G, ⟨a', c', h1, h2⟩, h2.own, h3⟩)).mono fun v O' ⟨N, ⟨a', c', h1, h2⟩, h3⟩ => ⟨a', c', N, h1, h2, h3⟩

theorem late_ok (R : Objs) (be bl lg d : Nat) (file n e : Int) (down : Bool) (hn : 0 ≤ n ∧ n < 1000000) :
    SpecLate Try.prog 56 #[Ptr be 0, Ptr bl 0] ((be, ⟨0, false, [I e]⟩) :: (bl, ⟨0, false, [Ptr lg 0]⟩) :: lgO lg d file n down :: R) fun O' => O' = (be, ⟨0, false, [I e]⟩) :: (bl, ⟨0, false, [Ptr lg 0]⟩) :: lgO lg d file (if e = 0 then n + 1 else n) (decide (e = 23)) :: R := by
  refine SpecLate.enter (args := [_, _]) (m := 16) Try.func56 rfl rfl (by decide +kernel) (by decide +kernel) fun h0 => ?_
  refine WX.seq ?_
  refine WX.region rfl ?_
  first | refine WXL.ld Met.none rfl agg53 ?_ | refine WXL.ldS Met.none rfl agg53 ?_
  first | refine WXL.ld Met.none rfl agg47 ?_ | refine WXL.ldS Met.none rfl agg47 ?_
  refine WXL.bin Met.none rfl rfl rfl ?_
  refine WXL.nilCheck Met.none rfl ?_
  first | refine WXL.fieldAddr Met.none rfl Try.underlying89 rfl sz4 rfl ?_ | refine WXL.faS Met.none rfl Try.underlying89 rfl sz4 ?_
  refine WXL.st (vs := [_]) (j := 2) Met.none rfl rfl rfl sz4 ?_ (hj := rfl)
  refine WXL.nil ?_
  refine Fin.then_normal ?_
  refine WX.seq ?_
  refine WX.region rfl ?_
  first | refine WXL.ld Met.none rfl agg47 ?_ | refine WXL.ldS Met.none rfl agg47 ?_
  refine WXL.bin Met.none rfl rfl rfl ?_
  refine WXL.nil ?_
  refine Fin.then_normal ?_
  refine WX.cond rfl (fun hc0 => ?_) (fun hc0 => ?_)
  · try simp only [cnd] at hc0
    refine WX.region rfl ?_
    first | refine WXL.ld Met.none rfl agg53 ?_ | refine WXL.ldS Met.none rfl agg53 ?_
    refine WXL.nilCheck Met.none rfl ?_
    first | refine WXL.fieldAddr Met.none rfl Try.underlying89 rfl sz3 rfl ?_ | refine WXL.faS Met.none rfl Try.underlying89 rfl sz3 ?_
    first | refine WXL.ld Met.none rfl agg3 ?_ | refine WXL.ldS Met.none rfl agg3 ?_
    refine WXL.bin Met.none rfl rfl bvA ?_
    refine WXL.nilCheck Met.none rfl ?_
    first | refine WXL.fieldAddr Met.none rfl Try.underlying89 rfl sz3 rfl ?_ | refine WXL.faS Met.none rfl Try.underlying89 rfl sz3 ?_
    refine WXL.st (vs := [_]) (j := 2) Met.none rfl rfl rfl sz3 ?_ (hj := rfl)
    refine WXL.nil ?_
    first
    | exact Fin.result (O' := (be, ⟨0, false, [I e]⟩) :: (bl, ⟨0, false, [Ptr lg 0]⟩) :: (lg, ⟨0, false, [Ptr d 0, I file, I (n + 1), .bool (decide (e = 23))]⟩) :: R) (.inl rfl) rfl rfl drop_ (by rw [if_pos hc0])
    | exact Fin.result (O' := (be, ⟨0, false, [I e]⟩) :: (bl, ⟨0, false, [Ptr lg 0]⟩) :: (lg, ⟨0, false, [Ptr d 0, I file, I n, .bool (decide (e = 23))]⟩) :: R) (.inl rfl) rfl rfl drop_ (by rw [if_neg hc0])
  · try simp only [cnd] at hc0
    refine WX.skip ?_
    first
    | exact Fin.result (O' := (be, ⟨0, false, [I e]⟩) :: (bl, ⟨0, false, [Ptr lg 0]⟩) :: (lg, ⟨0, false, [Ptr d 0, I file, I (n + 1), .bool (decide (e = 23))]⟩) :: R) (.inl rfl) rfl rfl drop_ (by rw [if_pos hc0])
    | exact Fin.result (O' := (be, ⟨0, false, [I e]⟩) :: (bl, ⟨0, false, [Ptr lg 0]⟩) :: (lg, ⟨0, false, [Ptr d 0, I file, I n, .bool (decide (e = 23))]⟩) :: R) (.inl rfl) rfl rfl drop_ (by rw [if_neg hc0])

theorem len_ok (R : Objs) (lg d : Nat) (file n : Int) (down : Bool) : Spec Try.prog false 33 #[Ptr lg 0] (lgO lg d file n down :: R) fun v O' => v = I n ∧ O' = lgO lg d file n down :: R := by
  refine Spec.enter (args := [_]) (m := 7) Try.func33 rfl rfl (by decide +kernel) fun h0 => ?_
  refine WX.seq ?_
  refine WX.region rfl ?_
  refine WXL.assign Met.none rfl ?_
  refine WXL.nil ?_
  refine Fin.then_normal ?_
  refine WX.seq ?_
  refine WX.region rfl ?_
  refine WXL.move Met.none rfl ?_
  refine WXL.nilCheck Met.none rfl ?_
  first | refine WXL.fieldAddr Met.none rfl Try.underlying89 rfl sz3 rfl ?_ | refine WXL.faS Met.none rfl Try.underlying89 rfl sz3 ?_
  first | refine WXL.ld Met.none rfl agg3 ?_ | refine WXL.ldS Met.none rfl agg3 ?_
  refine WXL.assign Met.none rfl ?_
  refine WXL.nil ?_
  refine Fin.then_normal ?_
  refine WX.ret ?_
  exact Fin.result (.inr rfl) rfl rfl drop_ ⟨rfl, rfl⟩

theorem up_ok (R : Objs) (lg d : Nat) (file n : Int) (down : Bool) : Spec Try.prog false 34 #[Ptr lg 0] (lgO lg d file n down :: R) fun v O' => v = .bool (!down) ∧ O' = lgO lg d file n down :: R := by
  refine Spec.enter (args := [_]) (m := 8) Try.func34 rfl rfl (by decide +kernel) fun h0 => ?_
  refine WX.seq ?_
  refine WX.region rfl ?_
  refine WXL.assign Met.none rfl ?_
  refine WXL.nil ?_
  refine Fin.then_normal ?_
  refine WX.seq ?_
  refine WX.region rfl ?_
  refine WXL.move Met.none rfl ?_
  refine WXL.nilCheck Met.none rfl ?_
  first | refine WXL.fieldAddr Met.none rfl Try.underlying89 rfl sz4 rfl ?_ | refine WXL.faS Met.none rfl Try.underlying89 rfl sz4 ?_
  first | refine WXL.ld Met.none rfl agg4 ?_ | refine WXL.ldS Met.none rfl agg4 ?_
  refine WXL.not Met.none rfl ?_
  refine WXL.assign Met.none rfl ?_
  refine WXL.nil ?_
  refine Fin.then_normal ?_
  refine WX.ret ?_
  exact Fin.result (.inr rfl) rfl rfl drop_ ⟨rfl, rfl⟩

theorem fresh_ok (O : Objs) (room : Int) (hr : 0 ≤ room ∧ room ≤ 16777216) : Spec Try.prog false 29 #[I room] O fun v O' => ∃ d bm, v = Ptr d 0 ∧ O' = dkO d bm ⟨room, false, false, 0, []⟩ .new O := by
  refine Spec.enter (args := [_]) (m := 13) Try.func29 rfl rfl (by decide +kernel) fun h0 => ?_
  refine WX.seq ?_
  refine WX.region rfl ?_
  refine WXL.assign Met.none rfl ?_
  refine WXL.nil ?_
  refine Fin.then_normal ?_
  refine WX.seq ?_
  refine WX.region rfl ?_
  refine WXL.move Met.none rfl ?_
  refine WXL.cl (O1 := _) Met.none rfl (fnOk_of Try.func52 (by decide +kernel)) rfl (fun _ h => h) ((diskNew_ok O room).mono (Post' := fun v O' => ∃ d bm, v = .tuple #[Ptr d 0, I 0] ∧ O' = dkO d bm ⟨room, false, false, 0, []⟩ .new O) fun v O' h => by
  rcases h with ⟨_, _, h⟩ | ⟨h, _⟩
  · exact h
  · exact absurd hr h) (fun v O' hp => ?_)
  obtain ⟨d, bm, rfl, rfl⟩ := hp
  refine WXL.move Met.none rfl ?_
  refine WXL.extract Met.none rfl rfl ?_
  refine WXL.extract Met.none rfl rfl ?_
  refine WXL.assign Met.none rfl ?_
  refine WXL.assign Met.none rfl ?_
  refine WXL.nil ?_
  refine Fin.then_normal ?_
  refine WX.seq ?_
  refine WX.seq ?_
  refine WX.region rfl ?_
  refine WXL.move Met.none rfl ?_
  refine WXL.bin Met.none rfl rfl rfl ?_
  refine WXL.nil ?_
  refine Fin.then_normal ?_
  refine WX.cond rfl (fun hc0 => ?_) (fun hc0 => ?_)
  · try simp only [cnd] at hc0
    exact (by simp at hc0) --end
  · try simp only [cnd] at hc0
    refine WX.skip ?_
    refine Fin.then_normal ?_
    refine WX.seq ?_
    refine WX.region rfl ?_
    refine WXL.move Met.none rfl ?_
    refine WXL.assign Met.none rfl ?_
    refine WXL.nil ?_
    refine Fin.then_normal ?_
    refine WX.ret ?_
    exact Fin.result (.inr rfl) rfl rfl drop_ ⟨d, bm, rfl, rfl⟩

end Go.Proofs.Ythekokdpplobhaa.Eng

set_option linter.unusedVariables false
set_option linter.unusedSimpArgs false
namespace Go.Proofs.Ythekokdpplobhaa.Eng

theorem Spec.sub {P : Program} {q : Bool} {f : FuncId} {args : Array Value} {O : Objs} {Post Post' : Value → Objs → Prop} (h : Spec P q f args O Post) (hp : ∀ v O', Post v O' → ∃ O2, Post' v O2 ∧ ∀ g, Sat g O' → Sat g O2) : Spec P q f args O Post' := fun g hg => by
  obtain ⟨v, h', O', h1, h2, h3, h4⟩ := h g hg
  obtain ⟨O2, h5, h6⟩ := hp v O' h2
  exact ⟨v, h', O2, h1, h5, h6 _ h3, h4⟩

/-- What a log's Append comes to: the error, the disk then. -/
def lappD (D : Dk) (file n : Int) (down : Bool) (b : List Int) : Int × Dk :=
  if down = true then (23, D)
  else if (appendD D file (frameB n b)).1 ≠ 0 then appendD D file (frameB n b)
  else syncD (appendD D file (frameB n b)).2

theorem logLong_ok (O : Objs) (lg m c : Nat) (a : Option Addr) (hm : 65536 < m) : Spec Try.prog false 32 #[Ptr lg 0, .slice a m c] O fun v O' => v = I 4 ∧ O' = O := by
  refine Spec.enter (args := [_, _]) (m := 37) Try.func32 rfl rfl (by decide +kernel) fun h0 => ?_
  refine WX.seq ?_
  refine WX.region rfl ?_
  refine WXL.box (c := [_]) Met.none rfl rfl rfl (fun b2 => ?_)
  refine WXL.alloc (c := [_]) Met.none zero47 rfl (fun b4 => ?_)
  refine WXL.nil ?_
  refine Fin.then_normal ?_
  refine WX.seq ?_
  refine WX.seq ?_
  refine WX.region rfl ?_
  refine WXL.move Met.none rfl ?_
  refine WXL.len Met.none rfl Try.underlying23 ?_
  refine WXL.bin Met.none rfl rfl rfl ?_
  refine WXL.nil ?_
  refine Fin.then_normal ?_
  refine WX.cond rfl (fun hc0 => ?_) (fun hc0 => ?_)
  · try simp only [cnd] at hc0
    refine WX.seq ?_
    refine WX.region rfl ?_
    refine WXL.st (vs := [_]) (c' := [_]) (j := 0) Met.none rfl rfl rfl sz47 ?_ (hj := rfl)
    refine WXL.nil ?_
    refine Fin.then_normal ?_
    refine WX.ret ?_
    refine Fin.then_ret ?_
    exact Fin.results (O' := O) (.inr rfl) rfl (vs := [I 4]) ⟨⟨b4, 0, rfl, load_one at_ agg47 rfl⟩, trivial⟩ drop_ ⟨rfl, rfl⟩
  · try simp only [cnd] at hc0
    exact (by exfalso; omega) --end

theorem logAppend1 (R : Objs) {R0 : Objs} (lg d bm : Nat) (D : Dk) (mx : MapX) (file n : Int) (down : Bool) (b : List Int) (ab : Option Addr) (cb : Nat) (hD : DkI R0 D mx) (hi : ∀ g, Sat g R → Sat g R0) (hn : 0 ≤ n ∧ n < 1000000) (hB : Bytes b) (hl : b.length ≤ 65536) (hb : Src R 1 (.slice ab b.length cb) b.length (b.map B8)) :
    Spec Try.prog false 32 #[Ptr lg 0, .slice ab b.length cb] (lgO lg d file n down :: dkO d bm D mx R) fun v O' => ∃ b2 b4 mx' N, v = I (lappD D file n down b).1 ∧
      O' = (b4, ⟨0, false, [I (lappD D file n down b).1]⟩) :: (b2, ⟨0, false, [Ptr lg 0]⟩) :: lgO lg d file (if (lappD D file n down b).1 = 0 then n + 1 else n) (decide ((lappD D file n down b).1 = 23)) :: dkO d bm (lappD D file n down b).2 mx' (N ++ R) ∧ DkI (N ++ R0) (lappD D file n down b).2 mx' := by
  have key : ∀ (e : Int) (D' : Dk) (mx' : MapX) (N : Objs) (b2 b4 : Nat) (x : Cx) (L : Tmps) (O : Objs), lappD D file n down b = (e, D') → DkI (N ++ R0) D' mx' → getT L 4 = some (Ptr b4 0) → (∀ h, Sat h O → Sat h ((b4, ⟨0, false, [I e]⟩) :: (b2, ⟨0, false, [Ptr lg 0]⟩) :: lgO lg d file n down :: dkO d bm D' mx' (N ++ R))) →
      Fin x L O .ret (endD (lateW Try.prog Try.f32 fun v O' => ∃ b2 b4 mx' N, v = I (lappD D file n down b).1 ∧
      O' = (b4, ⟨0, false, [I (lappD D file n down b).1]⟩) :: (b2, ⟨0, false, [Ptr lg 0]⟩) :: lgO lg d file (if (lappD D file n down b).1 = 0 then n + 1 else n) (decide ((lappD D file n down b).1 = 23)) :: dkO d bm (lappD D file n down b).2 mx' (N ++ R) ∧ DkI (N ++ R0) (lappD D file n down b).2 mx') 56 #[Ptr b4 0, Ptr b2 0]) := by
    intro e D' mx' N b2 b4 x L O h1 h2 h3 h4
    refine Fin.late (.inr rfl) rfl h4 (late_ok (dkO d bm D' mx' (N ++ R)) b4 b2 lg d file n e down hn) (fun O2 h5 => ⟨[I e], ⟨⟨b4, 0, h3, by subst h5; exact load_one (Knows.at 0 rfl) agg47 rfl⟩, trivial⟩, ?_⟩)
    subst h5
    rw [h1]
    exact ⟨b2, b4, mx', N, rfl, rfl, h2⟩
  refine Spec.enterD (args := [_, _]) (m := 37) Try.func32 rfl rfl (by decide +kernel) fun h0 => ?_
  refine WXD.seq ?_
  refine WX.region rfl ?_
  refine WXL.box (c := [_]) Met.none rfl rfl rfl (fun b2 => ?_)
  refine WXL.alloc (c := [_]) Met.none zero47 rfl (fun b4 => ?_)
  refine WXL.nil ?_
  refine Fin.thenD ?_
  refine WXD.seq ?_
  refine WX.seq ?_
  refine WX.region rfl ?_
  refine WXL.move Met.none rfl ?_
  refine WXL.len Met.none rfl Try.underlying23 ?_
  refine WXL.bin Met.none rfl rfl rfl ?_
  refine WXL.nil ?_
  refine Fin.then_normal ?_
  refine WX.cond rfl (fun hc0 => ?_) (fun hc0 => ?_)
  · try simp only [cnd] at hc0
    exact (by exfalso; omega) --end
  · try simp only [cnd] at hc0
    refine WX.skip ?_
    refine Fin.thenD ?_
    refine WXD.here rfl ?_
    refine WX.seq ?_
    refine WX.seq ?_
    refine WX.region rfl ?_
    first | refine WXL.ld Met.none rfl agg53 ?_ | refine WXL.ldS Met.none rfl agg53 ?_
    refine WXL.nilCheck Met.none rfl ?_
    first | refine WXL.fieldAddr Met.none rfl Try.underlying89 rfl sz4 rfl ?_ | refine WXL.faS Met.none rfl Try.underlying89 rfl sz4 ?_
    first | refine WXL.ld Met.none rfl agg4 ?_ | refine WXL.ldS Met.none rfl agg4 ?_
    refine WXL.nil ?_
    refine Fin.then_normal ?_
    refine WX.cond rfl (fun hc1 => ?_) (fun hc1 => ?_)
    · try simp only [cnd] at hc1
      refine WX.seq ?_
      refine WX.region rfl ?_
      refine WXL.st (vs := [_]) (c' := [_]) (j := 0) Met.none rfl rfl rfl sz47 ?_ (hj := rfl)
      refine WXL.nil ?_
      refine Fin.then_normal ?_
      refine WX.ret ?_
      refine Fin.then_ret ?_
      first
      | exact key 23 D mx [] _ _ _ _ _ (by unfold lappD; rw [if_pos (by assumption)]) hD rfl (fun _ hs => hs)
      | exact key _ _ mx1 N1 _ _ _ _ _ (by unfold lappD; rw [if_neg (by simp [hc1]), if_pos hc2]) hD1 rfl (fun _ hs => hs)
      | exact key _ _ mx2 N1 _ _ _ _ _ (by unfold lappD; rw [if_neg (by simp [hc1]), if_neg (by omega)]) hD2 rfl (fun _ hs => hs)
    · try simp only [cnd] at hc1
      refine WX.skip ?_
      refine Fin.then_normal ?_
      refine WX.seq ?_
      refine WX.seq ?_
      refine WX.draw rfl ?_
      first | refine WXL.ld Met.none rfl agg53 ?_ | refine WXL.ldS Met.none rfl agg53 ?_
      refine WXL.nilCheck Met.none rfl ?_
      first | refine WXL.fieldAddr Met.none rfl Try.underlying89 rfl sz51 rfl ?_ | refine WXL.faS Met.none rfl Try.underlying89 rfl sz51 ?_
      first | refine WXL.ld Met.none rfl agg51 ?_ | refine WXL.ldS Met.none rfl agg51 ?_
      first | refine WXL.ld Met.none rfl agg53 ?_ | refine WXL.ldS Met.none rfl agg53 ?_
      refine WXL.nilCheck Met.none rfl ?_
      first | refine WXL.fieldAddr Met.none rfl Try.underlying89 rfl sz3 rfl ?_ | refine WXL.faS Met.none rfl Try.underlying89 rfl sz3 ?_
      first | refine WXL.ld Met.none rfl agg3 ?_ | refine WXL.ldS Met.none rfl agg3 ?_
      first | refine WXL.ld Met.none rfl agg53 ?_ | refine WXL.ldS Met.none rfl agg53 ?_
      refine WXL.nilCheck Met.none rfl ?_
      first | refine WXL.fieldAddr Met.none rfl Try.underlying89 rfl sz3 rfl ?_ | refine WXL.faS Met.none rfl Try.underlying89 rfl sz3 ?_
      first | refine WXL.ld Met.none rfl agg3 ?_ | refine WXL.ldS Met.none rfl agg3 ?_
      refine WXL.move Met.none rfl ?_
      refine WXL.cl (O1 := _) Met.none rfl (fnOk_of Try.func12 (by decide +kernel)) rfl (fun _ h => h) (frame_q _ n b ab cb (by unfold In64; omega) hB (by omega) (Src.cons (Src.cons (Src.cons (Src.cons (Src.cons hb)))))) (fun v O' hp => ?_)
      obtain ⟨a27, c27, G27, rfl, hG27, rfl⟩ := hp
      refine WXL.cl (O1 := dkO d bm D mx (G27 ++ ((b4, ⟨0, false, [.int .i64 0]⟩) :: (b2, ⟨0, false, [Ptr lg 0]⟩) :: lgO lg d file n down :: R))) Met.none rfl (fnOk_of Try.func35 (by decide +kernel)) rfl sub_ (diskAppend_ok (G27 ++ ((b4, ⟨0, false, [.int .i64 0]⟩) :: (b2, ⟨0, false, [Ptr lg 0]⟩) :: lgO lg d file n down :: R)) d bm D mx file (frameB n b) a27 c27 hD (fun g hg => hi g hg.app_right.tail.tail.tail) hG27.src (frameB_bytes hB)) (fun v O' hp => ?_)
      obtain ⟨mx1, N1, rfl, rfl, hD1⟩ := hp
      refine WXL.assign Met.none rfl ?_
      refine WXL.nil ?_
      refine Fin.then_normal ?_
      refine WX.seq ?_
      refine WX.re (O' := (b4, ⟨0, false, [.int .i64 0]⟩) :: (b2, ⟨0, false, [Ptr lg 0]⟩) :: lgO lg d file n down :: dkO d bm (appendD D file (frameB n b)).2 mx1 (N1 ++ R)) ?_
      refine WX.region rfl ?_
      refine WXL.move Met.none rfl ?_
      refine WXL.bin Met.none rfl rfl rfl ?_
      refine WXL.nil ?_
      refine Fin.then_normal ?_
      refine WX.cond rfl (fun hc2 => ?_) (fun hc2 => ?_)
      · try simp only [cnd] at hc2
        refine WX.seq ?_
        refine WX.region rfl ?_
        refine WXL.move Met.none rfl ?_
        refine WXL.st (vs := [_]) (c' := [_]) (j := 0) Met.none rfl rfl rfl sz47 ?_ (hj := rfl)
        refine WXL.nil ?_
        refine Fin.then_normal ?_
        refine WX.ret ?_
        refine Fin.then_ret ?_
        first
        | exact key 23 D mx [] _ _ _ _ _ (by unfold lappD; rw [if_pos (by assumption)]) hD rfl (fun _ hs => hs)
        | exact key _ _ mx1 N1 _ _ _ _ _ (by unfold lappD; rw [if_neg (by simp [hc1]), if_pos hc2]) hD1 rfl (fun _ hs => hs)
        | exact key _ _ mx2 N1 _ _ _ _ _ (by unfold lappD; rw [if_neg (by simp [hc1]), if_neg (by omega)]) hD2 rfl (fun _ hs => hs)
      · try simp only [cnd] at hc2
        refine WX.skip ?_
        refine Fin.then_normal ?_
        refine WX.seq ?_
        refine WX.region rfl ?_
        first | refine WXL.ld Met.none rfl agg53 ?_ | refine WXL.ldS Met.none rfl agg53 ?_
        refine WXL.nilCheck Met.none rfl ?_
        first | refine WXL.fieldAddr Met.none rfl Try.underlying89 rfl sz51 rfl ?_ | refine WXL.faS Met.none rfl Try.underlying89 rfl sz51 ?_
        first | refine WXL.ld Met.none rfl agg51 ?_ | refine WXL.ldS Met.none rfl agg51 ?_
        refine WXL.cl (O1 := dkO d bm (appendD D file (frameB n b)).2 mx1 ((b4, ⟨0, false, [.int .i64 0]⟩) :: (b2, ⟨0, false, [Ptr lg 0]⟩) :: lgO lg d file n down :: (N1 ++ R))) Met.none rfl (fnOk_of Try.func55 (by decide +kernel)) rfl sub_ (sync_ok _ d bm (appendD D file (frameB n b)).2 mx1 hD1) (fun v O' hp => ?_)
        obtain ⟨mx2, rfl, rfl, hD2⟩ := hp
        refine WXL.re (O' := (b4, ⟨0, false, [.int .i64 0]⟩) :: (b2, ⟨0, false, [Ptr lg 0]⟩) :: lgO lg d file n down :: dkO d bm (syncD (appendD D file (frameB n b)).2).2 mx2 (N1 ++ R)) ?_
        refine WXL.st (vs := [_]) (c' := [_]) (j := 0) Met.none rfl rfl rfl sz47 ?_ (hj := rfl)
        refine WXL.nil ?_
        refine Fin.then_normal ?_
        refine WX.ret ?_
        first
        | exact key 23 D mx [] _ _ _ _ _ (by unfold lappD; rw [if_pos (by assumption)]) hD rfl (fun _ hs => hs)
        | exact key _ _ mx1 N1 _ _ _ _ _ (by unfold lappD; rw [if_neg (by simp [hc1]), if_pos hc2]) hD1 rfl (fun _ hs => hs)
        | exact key _ _ mx2 N1 _ _ _ _ _ (by unfold lappD; rw [if_neg (by simp [hc1]), if_neg (by omega)]) hD2 rfl (fun _ hs => hs)

theorem logAppend_ok (R : Objs) {R0 : Objs} (lg d bm : Nat) (D : Dk) (mx : MapX) (file n : Int) (down : Bool) (b : List Int) (ab : Option Addr) (cb : Nat) (hD : DkI R0 D mx) (hi : ∀ g, Sat g R → Sat g R0) (hn : 0 ≤ n ∧ n < 1000000) (hB : Bytes b) (hl : b.length ≤ 65536) (hb : Src R 1 (.slice ab b.length cb) b.length (b.map B8)) :
    Spec Try.prog false 32 #[Ptr lg 0, .slice ab b.length cb] (lgO lg d file n down :: dkO d bm D mx R) fun v O' => ∃ mx' N, v = I (lappD D file n down b).1 ∧
      O' = lgO lg d file (if (lappD D file n down b).1 = 0 then n + 1 else n) (decide ((lappD D file n down b).1 = 23)) :: dkO d bm (lappD D file n down b).2 mx' (N ++ R) ∧ DkI (N ++ R0) (lappD D file n down b).2 mx' :=
  (logAppend1 R lg d bm D mx file n down b ab cb hD hi hn hB hl hb).sub fun v O' ⟨b2, b4, mx', N, h1, h2, h3⟩ => ⟨_, ⟨mx', N, h1, rfl, h3⟩, fun g hg => by rw [h2] at hg; exact hg.tail.tail⟩

end Go.Proofs.Ythekokdpplobhaa.Eng

set_option linter.unusedVariables false
set_option linter.unusedSimpArgs false
namespace Go.Proofs.Ythekokdpplobhaa.Eng

theorem scan_nil (i : Nat) : scanP i [] = ([], 0) := scan_short i (by decide)

theorem recs_frames {l : List (List Int)} (h : l.length ≤ 1000000) (hx : ∀ x ∈ l, x.length ≤ 1000000) : recsP (framesB 0 l) = l ∧ endP (framesB 0 l) l.length = (framesB 0 l).length := by
  have h1 := scanP_frames [] l 0 (by omega) (fun x hx' => by have := hx x hx'; omega)
  rw [List.append_nil, scan_nil] at h1
  have h2 : recsP (framesB 0 l) = l := by unfold recsP; rw [h1]; simp
  refine ⟨h2, ?_⟩
  unfold endP
  rw [h2, List.take_length]

/-- The power is on and stays on. -/
structure Still (D : Dk) : Prop where
  off : D.off = false
  armed : D.armed = false

theorem calm_step {D : Dk} (h : Still D) : stepD D = (true, D) := by
  unfold stepD
  rw [if_pos h.armed]

theorem get_hard (fs : List (Int × Fi)) (k : Int) : getF (hardAll fs) k = (getF fs k).hard ∨ (getF (hardAll fs) k = ⟨[], 0⟩ ∧ getF fs k = ⟨[], 0⟩) := by
  induction fs with
  | nil => exact .inr ⟨rfl, rfl⟩
  | cons e l ih =>
    obtain ⟨n, f⟩ := e
    unfold getF hardAll at ih ⊢
    simp only [List.map_cons, mget]
    by_cases q : k = n
    · rw [if_pos q, if_pos q]; exact .inl rfl
    · rw [if_neg q, if_neg q]; exact ih

theorem get_hard_bs (fs : List (Int × Fi)) (k : Int) : (getF (hardAll fs) k).bs = (getF fs k).bs := by
  rcases get_hard fs k with h | ⟨h1, h2⟩
  · rw [h]; rfl
  · rw [h1, h2]

theorem get_set {fs : List (Int × Fi)} {k : Int} {f : Fi} (h : f.bs ≠ []) : getF (setF fs k f) k = f := by
  unfold setF
  rw [if_neg h]
  exact get_put

theorem get_put_ne {fs : List (Int × Fi)} {k j : Int} {f : Fi} (h : j ≠ k) : getF (mput k f fs) j = getF fs j := by
  unfold getF
  induction fs with
  | nil => simp [mput, mget, h]
  | cons e l ih =>
    obtain ⟨n, v⟩ := e
    simp only [mput]
    by_cases q : k = n
    · rw [if_pos q]; subst q; simp only [mget]; rw [if_neg h, if_neg h]
    · rw [if_neg q]
      simp only [mget]
      split
      · rfl
      · exact ih

theorem get_set_ne {fs : List (Int × Fi)} {k j : Int} {f : Fi} (h : j ≠ k) (hb : f.bs ≠ []) : getF (setF fs k f) j = getF fs j := by
  unfold setF
  rw [if_neg hb]
  exact get_put_ne h

theorem sync_calm {D : Dk} (h : Still D) : ∃ D', syncD D = (0, D') ∧ Still D' ∧ D'.room = D.room ∧ used D'.fs = used D.fs ∧ ∀ k, (getF D'.fs k).bs = (getF D.fs k).bs := by
  unfold syncD
  rw [if_neg (by rw [h.off]; simp), calm_step h, if_neg (by simp)]
  exact ⟨_, rfl, ⟨h.off, h.armed⟩, rfl, used_hard _, fun k => get_hard_bs _ k⟩

/-- An append that fits. -/
theorem append_calm {D : Dk} (h : Still D) {file : Int} (hf : 0 ≤ file ∧ file < 64) {b : List Int} (hb : b ≠ []) (hfit : (b.length : Int) ≤ D.room - used D.fs) : ∃ D', appendD D file b = (0, D') ∧ Still D' ∧ D'.room = D.room ∧ used D'.fs = used D.fs + b.length ∧ (getF D'.fs file).bs = (getF D.fs file).bs ++ b ∧ ∀ k, k ≠ file → (getF D'.fs k).bs = (getF D.fs k).bs := by
  have hc : Still (appD1 D file b) := ⟨h.off, h.armed⟩
  have hne : (getF D.fs file).bs ++ b ≠ [] := fun q => hb (List.append_eq_nil_iff.1 q).2
  unfold appendD
  rw [if_neg (by omega), if_neg (by rw [h.off]; simp), if_neg (by omega), calm_step hc, if_pos rfl]
  refine ⟨_, rfl, hc, rfl, ?_, ?_, fun k hk => ?_⟩
  · show used (setF D.fs file _) = _
    rw [used_set, List.length_append]
    omega
  · show (getF (setF D.fs file _) file).bs = _
    rw [get_set hne]
  · show (getF (setF D.fs file _) k).bs = _
    rw [get_set_ne hk hne]

theorem append_full {D : Dk} (h : Still D) {file : Int} (hf : 0 ≤ file ∧ file < 64) {b : List Int} (hfit : (b.length : Int) > D.room - used D.fs) : appendD D file b = (22, D) := by
  unfold appendD
  rw [if_neg (by omega), if_neg (by rw [h.off]; simp), if_pos hfit]

theorem frameB_ne (i : Int) (x : List Int) : frameB i x ≠ [] := fun q => by
  have := frameB_four i x
  rw [q] at this
  simp at this

theorem lapp_calm {D : Dk} (h : Still D) {file n : Int} (hf : 0 ≤ file ∧ file < 64) {b : List Int} (hfit : used D.fs + (frameB n b).length ≤ D.room) : ∃ D', lappD D file n false b = (0, D') ∧ Still D' ∧ D'.room = D.room ∧ used D'.fs = used D.fs + (frameB n b).length ∧ (getF D'.fs file).bs = (getF D.fs file).bs ++ frameB n b ∧ ∀ k, k ≠ file → (getF D'.fs k).bs = (getF D.fs k).bs := by
  obtain ⟨D1, e1, c1, r1, u1, g1, o1⟩ := append_calm h hf (frameB_ne n b) (by omega)
  obtain ⟨D2, e2, c2, r2, u2, g2⟩ := sync_calm c1
  unfold lappD
  rw [if_neg (by simp), e1, if_neg (by simp), e2]
  exact ⟨D2, rfl, c2, by rw [r2, r1], by rw [u2, u1], by rw [g2, g1], fun k hk => by rw [g2, o1 k hk]⟩

theorem lapp_full {D : Dk} (h : Still D) {file n : Int} (hf : 0 ≤ file ∧ file < 64) {b : List Int} (hfit : used D.fs + (frameB n b).length > D.room) : lappD D file n false b = (22, D) := by
  unfold lappD
  rw [if_neg (by simp), append_full h hf (by omega), if_pos (by simp)]

/-- A file that is a sequence of frames is opened as it is. -/
theorem open_calm {D : Dk} (h : Still D) {file : Int} (hf : 0 ≤ file ∧ file < 64) {l : List (List Int)} (hl : l.length ≤ 1000000) (hx : ∀ x ∈ l, x.length ≤ 1000000) (hb : (getF D.fs file).bs = framesB 0 l) : ∃ D', openD D file = (0, D') ∧ Still D' ∧ D'.room = D.room ∧ used D'.fs = used D.fs ∧ ∀ k, (getF D'.fs k).bs = (getF D.fs k).bs := by
  obtain ⟨r1, r2⟩ := recs_frames hl hx
  have e1 : readD D file = (framesB 0 l, 0) := by
    unfold readD
    rw [if_neg (by omega), if_neg (by rw [h.off]; simp), hb]
  have e2 : openT D file = (0, D) := by
    unfold openT
    rw [hb, r1, r2, if_neg (by omega)]
  unfold openD
  rw [e1, if_neg (by simp), e2, if_neg (by simp)]
  exact sync_calm h

theorem open_far {D : Dk} {file : Int} (hf : ¬ (0 ≤ file ∧ file < 64)) : openD D file = (1, D) := by
  have e1 : readD D file = ([], 1) := by unfold readD; rw [if_pos hf]
  unfold openD
  rw [e1, if_pos (by simp)]

theorem open_good (R : Objs) {R0 : Objs} (d bm : Nat) (D D' : Dk) (mx : MapX) (file : Int) (l : List (List Int)) (hD : DkI R0 D mx) (hi : ∀ g, Sat g R → Sat g R0) (hl : (getF D.fs file).bs.length ≤ 100000) (h0 : openD D file = (0, D')) (hr : recsP (getF D.fs file).bs = l) :
    Spec Try.prog false 30 #[Ptr d 0, I file] (dkO d bm D mx R) fun v O' => ∃ mx' lg ao co vs Gg Rg, v = .tuple #[Ptr lg 0, .slice ao l.length co, I 0] ∧ Grow 1 ao l.length co vs Gg ∧ AreB Rg vs l ∧
          O' = lgO lg d file l.length false :: dkO d bm D' mx' (Gg ++ (Rg ++ R)) ∧ DkI R0 D' mx' :=
  (open_ok R d bm D mx file hD hi hl).mono fun v O' ⟨mx', h⟩ => by
    rw [h0, hr] at h
    rcases h with ⟨_, lg, ao, co, vs, Gg, Rg, h1, h2, h3, h4, h5⟩ | ⟨h, _⟩
    · exact ⟨mx', lg, ao, co, vs, Gg, Rg, h1, h2, h3, h4, h5⟩
    · exact absurd rfl h

theorem open_bad (R : Objs) {R0 : Objs} (d bm : Nat) (D D' : Dk) (mx : MapX) (file e : Int) (hD : DkI R0 D mx) (hi : ∀ g, Sat g R → Sat g R0) (hl : (getF D.fs file).bs.length ≤ 100000) (h0 : openD D file = (e, D')) (he : e ≠ 0) :
    Spec Try.prog false 30 #[Ptr d 0, I file] (dkO d bm D mx R) fun v O' => ∃ mx' N, v = .tuple #[.pointer none, .slice none 0 0, I e] ∧ O' = dkO d bm D' mx' (N ++ R) ∧ DkI R0 D' mx' :=
  (open_ok R d bm D mx file hD hi hl).mono fun v O' ⟨mx', h⟩ => by
    rw [h0] at h
    rcases h with ⟨h, _⟩ | ⟨_, N, h1, h2, h3⟩
    · exact absurd h he
    · exact ⟨mx', N, h1, h2, h3⟩

end Go.Proofs.Ythekokdpplobhaa.Eng

set_option linter.unusedVariables false
set_option linter.unusedSimpArgs false
namespace Go.Proofs.Ythekokdpplobhaa.Eng

/-- A mix, on bits. -/
def gB (s w : BitVec 64) : BitVec 64 := ((s ^^^ w) * 11400714819323198485#64) ^^^ (((s ^^^ w) * 11400714819323198485#64) >>> 32)

theorem shift_inj {x y : BitVec 64} (h : x ^^^ (x >>> 32) = y ^^^ (y >>> 32)) : x = y := by
  have key : ∀ z : BitVec 64, (z ^^^ (z >>> 32)) ^^^ ((z ^^^ (z >>> 32)) >>> 32) = z := by
    intro z
    have e1 : (z ^^^ (z >>> 32)) >>> 32 = z >>> 32 := by
      rw [BitVec.ushiftRight_xor_distrib, ← BitVec.shiftRight_add]
      have : z >>> (32 + 32) = 0#64 := BitVec.ushiftRight_eq_zero (by decide)
      rw [this, BitVec.xor_zero]
    rw [e1, BitVec.xor_assoc, BitVec.xor_self, BitVec.xor_zero]
  rw [← key x, ← key y, h]

theorem mul_inj {x y : BitVec 64} (h : x * 11400714819323198485#64 = y * 11400714819323198485#64) : x = y := by
  have e : (11400714819323198485#64) * 17428512612931826493#64 = 1#64 := by decide
  have : x * 11400714819323198485#64 * 17428512612931826493#64 = y * 11400714819323198485#64 * 17428512612931826493#64 := by rw [h]
  rwa [BitVec.mul_assoc, BitVec.mul_assoc, e, BitVec.mul_one, BitVec.mul_one] at this

theorem gB_left {s s' w : BitVec 64} (h : gB s w = gB s' w) : s = s' := by
  have h1 := mul_inj (shift_inj h)
  have : s ^^^ w ^^^ w = s' ^^^ w ^^^ w := by rw [h1]
  rwa [BitVec.xor_assoc, BitVec.xor_assoc, BitVec.xor_self, BitVec.xor_zero, BitVec.xor_zero] at this

theorem gB_right {s w w' : BitVec 64} (h : gB s w = gB s w') : w = w' := by
  unfold gB at h
  rw [BitVec.xor_comm s w, BitVec.xor_comm s w'] at h
  exact gB_left (s := w) (s' := w') (w := s) h

theorem bv_of {a : Int} (h : InU a) : ((BitVec.ofInt 64 a).toNat : Int) = a := by
  unfold InU at h
  rw [BitVec.toNat_ofInt]
  omega

theorem bv_inj {a b : Int} (ha : InU a) (hb : InU b) (h : BitVec.ofInt 64 a = BitVec.ofInt 64 b) : a = b := by
  rw [← bv_of ha, ← bv_of hb, h]

theorem xorU_bv (a b : Int) : xorU a b = (((BitVec.ofInt 64 a) ^^^ (BitVec.ofInt 64 b)).toNat : Int) := by
  unfold xorU
  have := ((BitVec.ofInt 64 a) ^^^ (BitVec.ofInt 64 b)).isLt
  exact wrap_u64 (by omega) (by omega)

theorem bv_nat (x : BitVec 64) : BitVec.ofInt 64 (x.toNat : Int) = x := by
  apply BitVec.eq_of_toNat_eq
  rw [BitVec.toNat_ofInt]
  have := x.isLt
  omega

theorem mixU_bv (s w : Int) : mixU s w = ((gB (BitVec.ofInt 64 s) (BitVec.ofInt 64 w)).toNat : Int) := by
  unfold mixU
  rw [xorU_bv s w]
  obtain ⟨x, hx⟩ : ∃ x, x = (BitVec.ofInt 64 s) ^^^ (BitVec.ofInt 64 w) := ⟨_, rfl⟩
  rw [← hx]
  obtain ⟨m, hm⟩ : ∃ m, m = x * 11400714819323198485#64 := ⟨_, rfl⟩
  have e1 : IntKind.wrap .u64 ((x.toNat : Int) * 11400714819323198485) = (m.toNat : Int) := by
    rw [wrap_mod, hm, BitVec.toNat_mul]
    show ((x.toNat : Int) * 11400714819323198485) % 18446744073709551616 = ((x.toNat * 11400714819323198485 % 18446744073709551616 : Nat) : Int)
    omega
  rw [e1, xorU_bv, bv_nat]
  have e2 : BitVec.ofInt 64 ((m.toNat : Int).fdiv 4294967296) = m >>> 32 := by
    apply BitVec.eq_of_toNat_eq
    rw [Int.fdiv_eq_ediv_of_nonneg _ (by decide), BitVec.toNat_ofInt, BitVec.toNat_ushiftRight, Nat.shiftRight_eq_div_pow]
    have := m.isLt
    omega
  rw [e2]
  unfold gB
  rw [← hx, ← hm]

theorem mixU_range (s w : Int) : InU (mixU s w) := by
  rw [mixU_bv]
  have := (gB (BitVec.ofInt 64 s) (BitVec.ofInt 64 w)).isLt
  unfold InU
  omega

theorem mixU_left {s s' w : Int} (hs : InU s) (hs' : InU s') (h : mixU s w = mixU s' w) : s = s' := by
  rw [mixU_bv, mixU_bv] at h
  exact bv_inj hs hs' (gB_left (w := BitVec.ofInt 64 w) (BitVec.eq_of_toNat_eq (Int.ofNat.inj h)))

theorem mixU_right {s w w' : Int} (hw : InU w) (hw' : InU w') (h : mixU s w = mixU s w') : w = w' := by
  rw [mixU_bv, mixU_bv] at h
  exact bv_inj hw hw' (gB_right (s := BitVec.ofInt 64 s) (BitVec.eq_of_toNat_eq (Int.ofNat.inj h)))

/-- What mixing words makes of a state. -/
def foldU (s : Int) (l : List Int) : Int := l.foldl (fun s n => mixU s (IntKind.wrap .u64 n)) s

theorem foldU_range {s : Int} (hs : InU s) : ∀ {l : List Int}, InU (foldU s l) := by
  intro l
  induction l generalizing s with
  | nil => exact hs
  | cons a l ih => exact ih (s := mixU s (IntKind.wrap .u64 a)) (mixU_range _ _)

theorem foldU_left {l : List Int} : ∀ {s s' : Int}, InU s → InU s' → foldU s l = foldU s' l → s = s' := by
  induction l with
  | nil => intro s s' _ _ h; exact h
  | cons a l ih =>
    intro s s' hs hs' h
    exact mixU_left hs hs' (ih (mixU_range _ _) (mixU_range _ _) h)

theorem foldU_one {p q : List Int} {a a' s : Int} (hs : InU s) (h : foldU s (p ++ a :: q) = foldU s (p ++ a' :: q)) : IntKind.wrap .u64 a = IntKind.wrap .u64 a' := by
  unfold foldU at h
  rw [List.foldl_append, List.foldl_append] at h
  have h2 := foldU_left (l := q) (mixU_range _ _) (mixU_range _ _) h
  exact mixU_right (wrapU_range _) (wrapU_range _) h2

theorem wrap_asI {w : Int} (h : InU w) : IntKind.wrap .u64 (asI w) = w := by
  unfold InU at h
  unfold asI
  rw [wrap_mod]
  unfold IntKind.wrap
  have e1 : (2 : Int) ^ IntKind.bits .i64 = 18446744073709551616 := rfl
  have e2 : (2 : Int) ^ (IntKind.bits .i64 - 1) = 9223372036854775808 := rfl
  have e3 : IntKind.signed .i64 = true := rfl
  simp only [e1, e2, e3, Bool.true_and, decide_eq_true_eq]
  split <;> omega

theorem leW_inj : ∀ {l m : List Int}, Bytes l → Bytes m → l.length = m.length → leW l = leW m → l = m
  | [], [], _, _, _, _ => rfl
  | [], _ :: _, _, _, h, _ => by simp at h
  | _ :: _, [], _, _, h, _ => by simp at h
  | a :: l, b :: m, hl, hm, h, he => by
    have ha := hl a (List.mem_cons_self ..)
    have hb := hm b (List.mem_cons_self ..)
    unfold leW at he
    have e1 : a = b := by omega
    have e2 : leW l = leW m := by omega
    rw [e1, leW_inj (fun x hx => hl x (List.mem_cons_of_mem _ hx)) (fun x hx => hm x (List.mem_cons_of_mem _ hx)) (by simpa using h) e2]

/-- One byte turned: one word turned. -/
theorem wordsOf_set (b : List Int) (j : Nat) (x : Int) (hB : Bytes b) (hx : 0 ≤ x ∧ x < 256) (hj : j < b.length) (hne : nth b j ≠ x) :
    ∃ p q w w', wordsOf b = p ++ w :: q ∧ wordsOf (b.set j x) = p ++ w' :: q ∧ w ≠ w' ∧ InU w ∧ InU w' := by
  have hbn : b ≠ [] := fun q => by rw [q] at hj; simp at hj
  have hsn : b.set j x ≠ [] := fun q => hbn (by have := congrArg List.length q; rw [List.length_set] at this; exact List.length_eq_zero_iff.1 this)
  have hsB : Bytes (b.set j x) := fun z hz => by
    rcases List.mem_or_eq_of_mem_set hz with q | q
    · exact hB z q
    · rw [q]; exact hx
  have r1 := wordsOf_range hB
  have r2 := wordsOf_range hsB
  rw [wordsOf_cons hbn] at r1 ⊢
  rw [wordsOf_cons hsn] at r2 ⊢
  by_cases h8 : j < 8
  · have e1 : (b.set j x).drop 8 = b.drop 8 := by rw [List.drop_set, if_pos h8]
    rw [e1] at r2 ⊢
    refine ⟨[], _, _, _, rfl, rfl, fun he => hne ?_, r1 _ (List.mem_cons_self ..), r2 _ (List.mem_cons_self ..)⟩
    have e2 := leW_inj (fun z hz => hB z (List.mem_of_mem_take hz)) (fun z hz => hsB z (List.mem_of_mem_take hz)) (by rw [List.length_take, List.length_take, List.length_set]) he
    have e3 : (b.take 8)[j]? = ((b.set j x).take 8)[j]? := by rw [e2]
    rw [List.getElem?_take, List.getElem?_take, if_pos h8, if_pos h8, List.getElem?_set_self hj, nth_eq hj] at e3
    exact Option.some.inj e3
  · have e1 : (b.set j x).take 8 = b.take 8 := by rw [List.take_set_of_le (by omega)]
    have e2 : (b.set j x).drop 8 = (b.drop 8).set (j - 8) x := by rw [List.drop_set, if_neg h8]
    rw [e1, e2]
    have hd : (b.drop 8).length = b.length - 8 := List.length_drop
    obtain ⟨p, q, w, w', h1, h2, h3, h4, h5⟩ := wordsOf_set (b.drop 8) (j - 8) x (fun z hz => hB z (List.mem_of_mem_drop hz)) hx (by omega) (by
      rw [nth_get (by omega), List.getElem_drop]
      rw [nth_get hj] at hne
      have : 8 + (j - 8) = j := by omega
      simpa only [this] using hne)
    exact ⟨leW (b.take 8) :: p, q, w, w', by rw [h1]; rfl, by rw [h2]; rfl, h3, h4, h5⟩
termination_by b.length
decreasing_by
  rw [List.length_drop]
  omega

theorem hash_set (label b : List Int) (j : Nat) (x : Int) (hB : Bytes b) (hx : 0 ≤ x ∧ x < 256) (hj : j < b.length) (hne : nth b j ≠ x) : hashB label b ≠ hashB label (b.set j x) := by
  intro h
  obtain ⟨p, q, w, w', h1, h2, h3, h4, h5⟩ := wordsOf_set b j x hB hx hj hne
  unfold hashB sumU at h
  rw [List.length_set] at h
  have hl : ((wordsOf b).map asI ++ [(b.length : Int)]).length = ((wordsOf (b.set j x)).map asI ++ [(b.length : Int)]).length := by
    rw [h1, h2]; simp
  rw [hl] at h
  have h6 := mixU_left (foldU_range (mixU_range _ _)) (foldU_range (mixU_range _ _)) h
  rw [h1, h2] at h6
  simp only [List.map_append, List.map_cons, List.append_assoc, List.cons_append] at h6
  have h7 := foldU_one (mixU_range _ _) h6
  rw [wrap_asI h4, wrap_asI h5] at h7
  exact h3 h7

end Go.Proofs.Ythekokdpplobhaa.Eng

set_option linter.unusedVariables false
set_option linter.unusedSimpArgs false
namespace Go.Proofs.Ythekokdpplobhaa.Eng

theorem set_ne {l : List Int} {k : Nat} {x : Int} (hk : k < l.length) (hne : nth l k ≠ x) : l.set k x ≠ l := fun h => by
  have e : (l.set k x)[k]? = l[k]? := by rw [h]
  rw [List.getElem?_set_self hk, nth_eq hk] at e
  exact hne (Option.some.inj e).symm

theorem varU_pre {m n : Nat} {s t : List Int} (hm : m < 18446744073709551616) (hn : n < 18446744073709551616) (h : varU m ++ s = varU n ++ t) : m = n ∧ s = t := by
  have h1 := uintP_varU m hm s
  have h2 := uintP_varU n hn t
  rw [h, h2] at h1
  injection h1 with e1 e2
  injection e2 with e2 e3
  exact ⟨by omega, e2.symm⟩

theorem hash_nat (label b : List Int) : ∃ n : Nat, hashB label b = (n : Int) ∧ n < 18446744073709551616 := by
  have h := hashB_range label b
  unfold InU at h
  generalize hashB label b = H at h
  exact ⟨H.toNat, by omega, by omega⟩

/-- A turned frame. -/
theorem turned_none {own : List Int} (hB : Bytes own) (hl : own.length ≤ 200) {j : Nat} {x : Int} (hx : 0 ≤ x ∧ x < 256) (hj : (varU (coreB 0 own).length).length ≤ j) (hj2 : j < (frameB 0 own).length) (hne : nth (frameB 0 own) j ≠ x) (y : List Int) (hyB : Bytes y) (hy : y.length ≤ 100000) :
    ¬ frameB 0 y <+: (frameB 0 own).set j x := by
  intro h
  obtain ⟨t, ht⟩ := h
  have h64 : In64 0 := by unfold In64; decide
  have hc := coreB_len h64 (b := own) (by omega)
  have hc' := coreB_len h64 (b := y) (by omega)
  obtain ⟨c, hce⟩ : ∃ c, c = coreB 0 own := ⟨_, rfl⟩
  obtain ⟨c', hce'⟩ : ∃ c', c' = coreB 0 y := ⟨_, rfl⟩
  obtain ⟨v, hv⟩ : ∃ v, v = varU (hashB lblF c).toNat := ⟨_, rfl⟩
  have ef : frameB 0 own = varU c.length ++ (c ++ v) := by unfold frameB rawB; rw [hv, hce, List.append_assoc]
  have ef' : frameB 0 y = varU c'.length ++ (c' ++ varU (hashB lblF c').toNat) := by unfold frameB rawB; rw [hce', List.append_assoc]
  rw [← hce] at hc hj
  rw [← hce'] at hc'
  obtain ⟨n, hn, hn2⟩ := hash_nat lblF c
  obtain ⟨n', hn', hn2'⟩ := hash_nat lblF c'
  rw [ef', ef, List.set_append_right _ _ hj, List.append_assoc] at ht
  obtain ⟨e1, e2⟩ := varU_pre (by omega) (by omega) ht
  rw [ef, List.length_append] at hj2
  have hcB : Bytes c := hce ▸ coreB_bytes hB
  have hnth : nth (frameB 0 own) j = nth (c ++ v) (j - (varU c.length).length) := by
    rw [ef]
    unfold nth
    rw [List.getD_eq_getElem?_getD, List.getD_eq_getElem?_getD, List.getElem?_append_right hj]
  rw [hnth] at hne
  obtain ⟨k, hk⟩ : ∃ k, k = j - (varU c.length).length := ⟨_, rfl⟩
  rw [← hk] at hne e2
  have hkl : k < (c ++ v).length := by omega
  rw [List.append_assoc] at e2
  by_cases hkc : k < c.length
  · rw [List.set_append_left _ _ hkc] at e2
    have e3 := List.append_inj e2 (by rw [List.length_set]; exact e1)
    have hne2 : nth c k ≠ x := by
      intro q
      apply hne
      unfold nth at q ⊢
      rw [List.getD_eq_getElem?_getD] at q ⊢
      rw [List.getElem?_append_left hkc]
      exact q
    have h3 := hash_set lblF c k x hcB hx hkc hne2
    have e4 := e3.2
    rw [hv] at e4
    rw [hn, hn', Int.toNat_natCast, Int.toNat_natCast] at e4
    have e5 := varU_pre (m := n') (n := n) (s := t) (t := []) hn2' hn2 (by rw [List.append_nil]; exact e4)
    apply h3
    rw [← e3.1, hn, hn', e5.1]
  · have hkv : k - c.length < v.length := by rw [List.length_append] at hkl; omega
    rw [List.set_append_right _ _ (by omega)] at e2
    have e3 := List.append_inj e2 e1
    have e4 := e3.2
    rw [e3.1, ← hv] at e4
    have e5 := congrArg List.length e4
    rw [List.length_append, List.length_set] at e5
    have e6 : t = [] := List.length_eq_zero_iff.1 (by omega)
    rw [e6, List.append_nil] at e4
    refine set_ne hkv (fun q => hne ?_) e4.symm
    unfold nth at q ⊢
    rw [List.getD_eq_getElem?_getD] at q ⊢
    rw [List.getElem?_append_right (by omega)]
    exact q

end Go.Proofs.Ythekokdpplobhaa.Eng

set_option linter.unusedVariables false
set_option linter.unusedSimpArgs false
namespace Go.Proofs.Ythekokdpplobhaa.Eng

structure FuS where
  i : Nat
  kept : List (List Int)
  D : Dk
  mx : MapX
  a : Option Addr
  c : Nat
  vs : List Value
  G : Objs
  N : Objs

structure FuI (k : Int) (xs : List (List Int)) (B : Objs) (q : FuS) : Prop where
  i : q.i ≤ xs.length
  n : q.kept.length ≤ q.i
  sub : ∀ x ∈ q.kept, x ∈ xs
  still : Still q.D
  room : q.D.room = k
  used : used q.D.fs = (framesB 0 q.kept).length
  bs : (getF q.D.fs 63).bs = framesB 0 q.kept
  dk : DkI q.N q.D q.mx
  row : Grow 1 q.a q.kept.length q.c q.vs q.G
  are : AreB B q.vs q.kept

theorem framesB_one (kept : List (List Int)) (x : List Int) : framesB 0 (kept ++ [x]) = framesB 0 kept ++ frameB (kept.length : Nat) x := by
  rw [framesB_snoc, Nat.zero_add]

theorem journalFull_ok (O : Objs) (room : Int) (l : List Int) (al : Option Addr) (cl : Nat) (hr64 : In64 room) (h64 : ∀ n ∈ l, In64 n) (hll : Short l) (hl : Src O 1 (.slice al l.length cl) l.length (l.map I)) :
    Spec Try.prog false 6 #[I room, .slice al l.length cl] O fun v _ => v = .bool true := by
  have hkr := around_range (n := room) (m := 120) (by decide)
  refine Spec.enter (args := [_, _]) (m := 148) Try.func6 rfl rfl (by decide +kernel) fun h0 => ?_
  refine WX.seq ?_
  refine WX.region rfl ?_
  refine WXL.assign Met.none rfl ?_
  refine WXL.nil ?_
  refine Fin.then_normal ?_
  refine WX.seq ?_
  refine WX.region rfl ?_
  refine WXL.move Met.none rfl ?_
  refine WXL.cl (O1 := _) Met.none rfl (fnOk_of Try.func19 (by decide +kernel)) rfl (fun _ h => h) (around_ok O room 120 hr64 (by decide)) (fun v O' hp => ?_)
  obtain ⟨rfl, hO⟩ := hp
  subst O'
  refine WXL.assign Met.none rfl ?_
  refine WXL.nil ?_
  refine Fin.then_normal ?_
  refine WX.seq ?_
  generalize around room 120 = k at hkr ⊢
  refine WX.region rfl ?_
  refine WXL.move Met.none rfl ?_
  refine WXL.cl (O1 := _) Met.none rfl (fnOk_of Try.func29 (by decide +kernel)) rfl (fun _ h => h) (fresh_ok _ k (by omega)) (fun v O' hp => ?_)
  obtain ⟨d, bm, rfl, rfl⟩ := hp
  refine WXL.assign Met.none rfl ?_
  refine WXL.nil ?_
  refine Fin.then_normal ?_
  refine WX.seq ?_
  refine WX.seq ?_
  refine WX.region rfl ?_
  refine WXL.move Met.none rfl ?_
  refine WXL.eqNilP Met.none rfl rfl Try.underlying51 ?_
  refine WXL.nil ?_
  refine Fin.then_normal ?_
  refine WX.cond rfl (fun hc0 => ?_) (fun hc0 => ?_)
  · try simp only [cnd] at hc0
    exact (by simp at hc0) --end
  · try simp only [cnd] at hc0
    refine WX.skip ?_
    refine Fin.then_normal ?_
    refine WX.seq ?_
    have hD0 : DkI [] ⟨k, false, false, 0, []⟩ .new := ⟨.new, by show 0 ≤ k ∧ k ≤ 16777216; omega, (fun q => by cases q), by show (0 : Int) ≤ k; omega⟩
    obtain ⟨D1, e1, s1, r1, u1, g1⟩ := open_calm (D := ⟨k, false, false, 0, []⟩) ⟨rfl, rfl⟩ (file := 63) (by decide) (l := []) (by decide) (by simp) rfl
    have hr0 : recsP (getF ([] : List (Int × Fi)) 63).bs = [] := by show recsP [] = []; unfold recsP; rw [scan_nil]
    refine WX.region rfl ?_
    refine WXL.move Met.none rfl ?_
    refine WXL.cl (O1 := _) Met.none rfl (fnOk_of Try.func30 (by decide +kernel)) rfl (fun _ h => h) (open_good O d bm ⟨k, false, false, 0, []⟩ D1 .new 63 [] hD0 (fun g hg => Sat.nil hg.wf) (Nat.zero_le _) e1 hr0) (fun v O' hp => ?_)
    obtain ⟨mx1, lg, ao, co, vs0, G0, R0, rfl, hG0, hR0, rfl, hD1⟩ := hp
    refine WXL.move Met.none rfl ?_
    refine WXL.extract Met.none rfl rfl ?_
    refine WXL.extract Met.none rfl rfl ?_
    refine WXL.extract Met.none rfl rfl ?_
    refine WXL.assign Met.none rfl ?_
    refine WXL.assign Met.none rfl ?_
    refine WXL.assign Met.none rfl ?_
    refine WXL.nil ?_
    refine Fin.then_normal ?_
    refine WX.seq ?_
    refine WX.seq ?_
    refine WX.region rfl ?_
    refine WXL.move Met.none rfl ?_
    refine WXL.eqNilP Met.none rfl rfl Try.underlying53 ?_
    refine WXL.move Met.none rfl ?_
    refine WXL.split (d := 39) rfl (fun hg39 => ?_) (fun hg39 => ?_)
    · try simp only [cnd] at hg39
      exact (by simp at hg39) --end
    · try simp only [cnd] at hg39
      refine WXL.move (Met.some rfl rfl rfl) rfl ?_
      refine WXL.bin (Met.some rfl rfl rfl) rfl rfl rfl ?_
      refine WXL.pick_f Met.none rfl rfl ?_
      refine WXL.nil ?_
      refine Fin.then_normal ?_
      refine WX.cond rfl (fun hc1 => ?_) (fun hc1 => ?_)
      · try simp only [cnd] at hc1
        exact (by simp at hc1) --end
      · try simp only [cnd] at hc1
        refine WX.skip ?_
        refine Fin.then_normal ?_
        refine WX.seq ?_
        refine WX.re (O' := lgO lg d 63 (([] : List (List Int)).length : Nat) false :: dkO d bm D1 mx1 O) ?_
        refine WX.region rfl ?_
        refine WXL.move Met.none rfl ?_
        refine WXL.cl (O1 := _) Met.none rfl (fnOk_of Try.func14 (by decide +kernel)) rfl (fun _ h => h) (mkRecords_own _ l al cl h64 hll (Src.cons (Src.cons (Src.cons hl)))) (fun v O' hp => ?_)
        obtain ⟨xs, ax, cx, vx, Gx, Rx, rfl, hGx, hvx, ⟨hx1, hx2⟩, rfl⟩ := hp
        refine WXL.assign Met.none rfl ?_
        refine WXL.nil ?_
        refine Fin.then_normal ?_
        refine WX.seq ?_
        refine WX.region rfl ?_
        refine WXL.assign Met.none rfl ?_
        refine WXL.nil ?_
        refine Fin.then_normal ?_
        refine WX.seq ?_
        refine WX.seq ?_
        refine WX.re (O' := lgO lg d 63 (([] : List (List Int)).length : Nat) false :: dkO d bm D1 mx1 ([] ++ ([] ++ (Gx ++ (Rx ++ O))))) ?_
        obtain ⟨B, hB⟩ : ∃ B, B = Gx ++ (Rx ++ O) := ⟨_, rfl⟩
        have hsx : Src B 1 (.slice ax xs.length cx) xs.length vx := hB ▸ hGx.src
        have hbx : AreB B vx xs := hB ▸ hvx.right.app
        rw [← hB]
        clear hB hGx hvx
        refine WX.region rfl ?_
        refine WXL.assign Met.none rfl ?_
        refine WXL.nil ?_
        refine Fin.then_normal ?_
        refine WX.block ?_
        refine WX.loop (fun q : FuS => [(5, I k), (6, Ptr d 0), (7, Ptr lg 0), (10, .slice ax xs.length cx), (11, .slice q.a q.kept.length q.c), (12, I (q.i : Int))]) (fun q => lgO lg d 63 (q.kept.length : Nat) false :: dkO d bm q.D q.mx (q.G ++ (q.N ++ B))) (FuI k xs B) (fun q => xs.length - q.i) ⟨0, [], D1, mx1, none, 0, [], [], []⟩ ⟨Nat.zero_le _, Nat.le_refl _, (fun x hx => by simp at hx), s1, r1, u1, g1 63, hD1, .nil, .nil⟩ (fun s hs => hs.tl [] 0) (fun q hq => ?_)
        obtain ⟨i, kept, D, mx, a, c, vs, G, N⟩ := q
        obtain ⟨hi, hn, hsub, hst, hroom, hu, hbs, hD, hG, hA⟩ := hq
        simp only at hi hn hsub hst hroom hu hbs hD hG hA
        dsimp only
        have hul := hD.used
        rw [hu, hroom] at hul
        refine WX.seq ?_
        refine WX.seq ?_
        refine WX.region rfl ?_
        refine WXL.move Met.none rfl ?_
        refine WXL.move Met.none rfl ?_
        refine WXL.len Met.none rfl Try.underlying27 ?_
        refine WXL.bin Met.none rfl rfl rfl ?_
        refine WXL.nil ?_
        refine Fin.then_normal ?_
        refine WX.cond rfl (fun hc2 => ?_) (fun hc2 => ?_)
        · try simp only [cnd] at hc2
          refine WX.skip ?_
          refine Fin.then_normal ?_
          refine WX.seq ?_
          refine WX.block ?_
          refine WX.seq ?_
          refine WX.region rfl ?_
          refine WXL.move Met.none rfl ?_
          refine WXL.cl (O1 := dkO d bm D mx (lgO lg d 63 (kept.length : Nat) false :: (G ++ (N ++ B)))) Met.none rfl (fnOk_of Try.func31 (by decide +kernel)) rfl sub_ (used_ok _ _ d bm D mx hD) (fun v O' hp => ?_)
          obtain ⟨rfl, rfl⟩ := hp
          rw [hu]
          refine WXL.assign Met.none rfl ?_
          refine WXL.nil ?_
          refine Fin.then_normal ?_
          refine WX.seq ?_
          have hk1 : i < xs.length := by omega
          obtain ⟨ai, ci, ei, si⟩ := hbx.2 i hk1
          rw [ei] at si
          obtain ⟨x, hx⟩ : ∃ x, x = nth xs i := ⟨_, rfl⟩
          have hxm : x ∈ xs := hx ▸ nth_mem hk1
          obtain ⟨hxB, hxl⟩ := hx2 x hxm
          rw [← hx] at si ei
          have hvi : vx[i]? = some (.slice ai x.length ci) := by rw [← ei]; exact nth_eq (by rw [hbx.1]; exact hk1)
          have hfl := frameB_len (i := ((kept.length : Nat) : Int)) (x := x) (by unfold In64; omega) (by omega)
          refine WX.region rfl ?_
          refine WXL.move Met.none rfl ?_
          refine WXL.len Met.none rfl Try.underlying27 ?_
          refine WXL.move Met.none rfl ?_
          refine WXL.move Met.none rfl ?_
          first | refine WXL.ix Met.none rfl rfl elem27 sz23 ?_ | refine WXL.ixS Met.none rfl rfl elem27 sz23 ?_
          first | refine WXL.ld Met.none rfl agg23 ?_ (hv := hvi) | refine WXL.ldS Met.none rfl agg23 ?_ (hv := hvi)
          refine WXL.cl (O1 := _) Met.none rfl (fnOk_of Try.func12 (by decide +kernel)) rfl (fun _ h => h) (frame_ok _ ((kept.length : Nat) : Int) x ai ci (by unfold In64; omega) hxB (by omega) (Src.cons (Src.cons (Src.cons (Src.app (Src.app si)))))) (fun v O' hp => ?_)
          obtain ⟨a9, c9, G9, rfl, hG9, rfl⟩ := hp
          refine WXL.len Met.none rfl Try.underlying23 ?_
          refine WXL.assign Met.none rfl ?_
          refine WXL.nil ?_
          refine Fin.then_normal ?_
          refine WX.seq ?_
          refine WX.re (O' := lgO lg d 63 (kept.length : Nat) false :: dkO d bm D mx (G ++ (N ++ B))) ?_
          refine WX.region rfl ?_
          refine WXL.move Met.none rfl ?_
          refine WXL.move Met.none rfl ?_
          refine WXL.move Met.none rfl ?_
          first | refine WXL.ix Met.none rfl rfl elem27 sz23 ?_ | refine WXL.ixS Met.none rfl rfl elem27 sz23 ?_
          first | refine WXL.ld Met.none rfl agg23 ?_ (hv := hvi) | refine WXL.ldS Met.none rfl agg23 ?_ (hv := hvi)
          refine WXL.cl (O1 := _) Met.none rfl (fnOk_of Try.func32 (by decide +kernel)) rfl (fun _ h => h) (logAppend_ok (G ++ (N ++ B)) lg d bm D mx 63 (kept.length : Nat) false x ai ci hD (fun g hg => hg.app_right.app_left) (by omega) hxB (by omega) (Src.app (Src.app si))) (fun v O' hp => ?_)
          obtain ⟨mx2, N1, rfl, rfl, hD2⟩ := hp
          refine WXL.assign Met.none rfl ?_
          refine WXL.nil ?_
          refine Fin.then_normal ?_
          refine WX.seq ?_
          refine WX.seq ?_
          obtain ⟨e, D2, hE⟩ : ∃ e D2, lappD D 63 ((kept.length : Nat) : Int) false x = (e, D2) := ⟨_, _, rfl⟩
          rw [hE] at hD2 ⊢
          dsimp only at hD2 ⊢
          refine WX.region rfl ?_
          refine WXL.move Met.none rfl ?_
          refine WXL.move Met.none rfl ?_
          refine WXL.bin Met.none rfl rfl bvA ?_
          refine WXL.move Met.none rfl ?_
          refine WXL.bin Met.none rfl rfl rfl ?_
          refine WXL.nil ?_
          refine Fin.then_normal ?_
          refine WX.cond rfl (fun hc3 => ?_) (fun hc3 => ?_)
          · try simp only [cnd] at hc3
            have h4 := hE.symm.trans (lapp_full hst (file := 63) (by decide) (b := x) (by rw [hu, hroom]; omega))
            obtain ⟨rfl, rfl⟩ := Prod.mk.inj h4
            rw [show (if (22 : Int) = 0 then ((kept.length : Nat) : Int) + 1 else ((kept.length : Nat) : Int)) = ((kept.length : Nat) : Int) from rfl, show decide ((22 : Int) = 23) = false from rfl]
            refine WX.seq ?_
            refine WX.region rfl ?_
            refine WXL.move Met.none rfl ?_
            refine WXL.bin Met.none rfl rfl rfl ?_
            refine WXL.move Met.none rfl ?_
            refine WXL.split (d := 74) rfl (fun hg74 => ?_) (fun hg74 => ?_)
            · try simp only [cnd] at hg74
              exact (by simp at hg74) --end
            · try simp only [cnd] at hg74
              refine WXL.move (Met.some rfl rfl rfl) rfl ?_
              refine WXL.cl (O1 := dkO d bm D2 mx2 (lgO lg d 63 (kept.length : Nat) false :: (N1 ++ (G ++ (N ++ B))))) (Met.some rfl rfl rfl) rfl (fnOk_of Try.func31 (by decide +kernel)) rfl sub_ (used_ok _ _ d bm D2 mx2 hD2) (fun v O' hp => ?_)
              obtain ⟨rfl, rfl⟩ := hp
              rw [hu]
              refine WXL.move (Met.some rfl rfl rfl) rfl ?_
              refine WXL.bin (Met.some rfl rfl rfl) rfl rfl rfl ?_
              refine WXL.pick_f Met.none rfl rfl ?_
              refine WXL.nil ?_
              refine Fin.then_normal ?_
              refine WX.cond rfl (fun hc4 => ?_) (fun hc4 => ?_)
              · try simp only [cnd] at hc4
                exact (by simp at hc4) --end
              · try simp only [cnd] at hc4
                refine WX.re (O' := lgO lg d 63 (kept.length : Nat) false :: dkO d bm D2 mx2 (G ++ ((N1 ++ N) ++ B))) ?_
                refine WX.skip ?_
                refine Fin.then_normal ?_
                refine WX.seq ?_
                refine WX.region rfl ?_
                refine WXL.move Met.none rfl ?_
                refine WXL.cl (O1 := _) Met.none rfl (fnOk_of Try.func33 (by decide +kernel)) rfl (fun _ h => h) (len_ok _ lg d 63 _ false) (fun v O' hp => ?_)
                obtain ⟨rfl, hO⟩ := hp
                subst O'
                refine WXL.move Met.none rfl ?_
                refine WXL.len Met.none rfl Try.underlying27 ?_
                refine WXL.bin Met.none rfl rfl rfl ?_
                refine WXL.move Met.none rfl ?_
                refine WXL.split (d := 102) rfl (fun hg102 => ?_) (fun hg102 => ?_)
                · try simp only [cnd] at hg102
                  exact (by first | exact absurd trivial hg102 | exact absurd (by rw [List.length_append]; rfl) hg102) --end
                · try simp only [cnd] at hg102
                  refine WXL.move (Met.some rfl rfl rfl) rfl ?_
                  refine WXL.cl (O1 := _) (Met.some rfl rfl rfl) rfl (fnOk_of Try.func34 (by decide +kernel)) rfl (fun _ h => h) (up_ok _ lg d 63 _ false) (fun v O' hp => ?_)
                  obtain ⟨rfl, hO⟩ := hp
                  subst O'
                  obtain ⟨up, hup⟩ : ∃ u, u = (!false) := ⟨_, rfl⟩
                  rw [← hup]
                  refine WXL.not (Met.some rfl rfl rfl) rfl ?_
                  refine WXL.pick_f Met.none rfl rfl ?_
                  refine WXL.nil ?_
                  refine Fin.then_normal ?_
                  refine WX.cond rfl (fun hc6 => ?_) (fun hc6 => ?_)
                  · try simp only [cnd] at hc6
                    exact (by rw [hup] at hc6; cases hc6) --end
                  · try simp only [cnd] at hc6
                    refine WX.skip ?_
                    refine Fin.block_normal ?_
                    refine Fin.then_normal ?_
                    refine WX.region rfl ?_
                    refine WXL.move Met.none rfl ?_
                    refine WXL.bin Met.none rfl rfl bvA ?_
                    refine WXL.assign Met.none rfl ?_
                    refine WXL.nil ?_
                    first
                    | exact Fin.loop_next (⟨i + 1, kept, D2, mx2, a, c, vs, G, N1 ++ N⟩ : FuS) ⟨by simp only; omega, by simp only; omega, hsub, hst, hroom, hu, hbs, hD2, hG, hA⟩ (by simp only; omega) (fun s hs => hs.tl [] 0)
                    | exact Fin.loop_next (⟨i + 1, kept ++ [x], D2, mx2, a96, c96, vs ++ [.slice ai x.length ci], G96, N1 ++ N⟩ : FuS) ⟨by simp only; omega, by simp only [List.length_append, List.length_singleton]; omega, (fun y hy => by
                        rcases List.mem_append.1 hy with q | q
                        · exact hsub y q
                        · rw [List.mem_singleton] at q; subst q; exact hxm), s3, by simp only; rw [r3, hroom], by simp only; rw [u3, hu, framesB_one, List.length_append]; omega, by simp only; rw [g3, hbs, framesB_one], hD2, hG96, hA.snoc ⟨ai, ci, rfl, si⟩⟩ (by simp only; omega) (fun s hs => hs.tl [] 0)
          · try simp only [cnd] at hc3
            obtain ⟨D3, e3, s3, r3, u3, g3, o3⟩ := lapp_calm hst (file := 63) (n := ((kept.length : Nat) : Int)) (by decide) (b := x) (by rw [hu, hroom]; omega)
            have h4 := hE.symm.trans e3
            obtain ⟨rfl, rfl⟩ := Prod.mk.inj h4
            rw [show (if (0 : Int) = 0 then ((kept.length : Nat) : Int) + 1 else ((kept.length : Nat) : Int)) = (((kept ++ [x]).length : Nat) : Int) from by simp, show decide ((0 : Int) = 23) = false from rfl]
            refine WX.seq ?_
            refine WX.seq ?_
            refine WX.region rfl ?_
            refine WXL.move Met.none rfl ?_
            refine WXL.bin Met.none rfl rfl rfl ?_
            refine WXL.move Met.none rfl ?_
            refine WXL.split (d := 82) rfl (fun hg82 => ?_) (fun hg82 => ?_)
            · try simp only [cnd] at hg82
              exact (by simp at hg82) --end
            · try simp only [cnd] at hg82
              refine WXL.move (Met.some rfl rfl rfl) rfl ?_
              refine WXL.cl (O1 := dkO d bm D2 mx2 (lgO lg d 63 ((kept ++ [x]).length : Nat) false :: (N1 ++ (G ++ (N ++ B))))) (Met.some rfl rfl rfl) rfl (fnOk_of Try.func31 (by decide +kernel)) rfl sub_ (used_ok _ _ d bm D2 mx2 hD2) (fun v O' hp => ?_)
              obtain ⟨rfl, rfl⟩ := hp
              rw [u3, hu]
              refine WXL.move (Met.some rfl rfl rfl) rfl ?_
              refine WXL.move (Met.some rfl rfl rfl) rfl ?_
              refine WXL.bin (Met.some rfl rfl rfl) rfl rfl bvA ?_
              refine WXL.bin (Met.some rfl rfl rfl) rfl rfl rfl ?_
              refine WXL.pick_f Met.none rfl rfl ?_
              refine WXL.nil ?_
              refine Fin.then_normal ?_
              refine WX.cond rfl (fun hc5 => ?_) (fun hc5 => ?_)
              · try simp only [cnd] at hc5
                exact (by simp at hc5) --end
              · try simp only [cnd] at hc5
                refine WX.skip ?_
                refine Fin.then_normal ?_
                refine WX.re (O' := lgO lg d 63 ((kept ++ [x]).length : Nat) false :: dkO d bm D2 mx2 (G ++ ((N1 ++ N) ++ B))) ?_
                refine WX.region rfl ?_
                refine WXL.move Met.none rfl ?_
                refine WXL.move Met.none rfl ?_
                refine WXL.move Met.none rfl ?_
                first | refine WXL.ix Met.none rfl rfl elem27 sz23 ?_ | refine WXL.ixS Met.none rfl rfl elem27 sz23 ?_
                first | refine WXL.ld Met.none rfl agg23 ?_ (hv := hvi) | refine WXL.ldS Met.none rfl agg23 ?_ (hv := hvi)
                refine WXL.buildSlice (c := [_]) Met.none rfl elem27 sz23 zero23 (by decide) (by decide) rfl rfl rfl rfl (fun b95 => ?_)
                refine WXL.apG [_, _, _, _] Met.none rfl rfl isrow27 elem27 sz23 by23 zero23 (Src.lit (cs := [_])) (fun a96 c96 G96 hG96 => ?_)
                refine WXL.re (O' := lgO lg d 63 ((kept ++ [x]).length : Nat) false :: dkO d bm D2 mx2 (G96 ++ ((N1 ++ N) ++ B))) ?_
                have hkl : kept.length + 1 = (kept ++ [x]).length := by simp
                rw [hkl] at hG96
                refine WXL.assign Met.none rfl ?_
                refine WXL.nil ?_
                refine Fin.then_normal ?_
                refine WX.seq ?_
                refine WX.region rfl ?_
                refine WXL.move Met.none rfl ?_
                refine WXL.cl (O1 := _) Met.none rfl (fnOk_of Try.func33 (by decide +kernel)) rfl (fun _ h => h) (len_ok _ lg d 63 _ false) (fun v O' hp => ?_)
                obtain ⟨rfl, hO⟩ := hp
                subst O'
                refine WXL.move Met.none rfl ?_
                refine WXL.len Met.none rfl Try.underlying27 ?_
                refine WXL.bin Met.none rfl rfl rfl ?_
                refine WXL.move Met.none rfl ?_
                refine WXL.split (d := 102) rfl (fun hg102 => ?_) (fun hg102 => ?_)
                · try simp only [cnd] at hg102
                  exact (by first | exact absurd trivial hg102 | exact absurd (by rw [List.length_append]; rfl) hg102) --end
                · try simp only [cnd] at hg102
                  refine WXL.move (Met.some rfl rfl rfl) rfl ?_
                  refine WXL.cl (O1 := _) (Met.some rfl rfl rfl) rfl (fnOk_of Try.func34 (by decide +kernel)) rfl (fun _ h => h) (up_ok _ lg d 63 _ false) (fun v O' hp => ?_)
                  obtain ⟨rfl, hO⟩ := hp
                  subst O'
                  obtain ⟨up, hup⟩ : ∃ u, u = (!false) := ⟨_, rfl⟩
                  rw [← hup]
                  refine WXL.not (Met.some rfl rfl rfl) rfl ?_
                  refine WXL.pick_f Met.none rfl rfl ?_
                  refine WXL.nil ?_
                  refine Fin.then_normal ?_
                  refine WX.cond rfl (fun hc6 => ?_) (fun hc6 => ?_)
                  · try simp only [cnd] at hc6
                    exact (by rw [hup] at hc6; cases hc6) --end
                  · try simp only [cnd] at hc6
                    refine WX.skip ?_
                    refine Fin.block_normal ?_
                    refine Fin.then_normal ?_
                    refine WX.region rfl ?_
                    refine WXL.move Met.none rfl ?_
                    refine WXL.bin Met.none rfl rfl bvA ?_
                    refine WXL.assign Met.none rfl ?_
                    refine WXL.nil ?_
                    first
                    | exact Fin.loop_next (⟨i + 1, kept, D2, mx2, a, c, vs, G, N1 ++ N⟩ : FuS) ⟨by simp only; omega, by simp only; omega, hsub, hst, hroom, hu, hbs, hD2, hG, hA⟩ (by simp only; omega) (fun s hs => hs.tl [] 0)
                    | exact Fin.loop_next (⟨i + 1, kept ++ [x], D2, mx2, a96, c96, vs ++ [.slice ai x.length ci], G96, N1 ++ N⟩ : FuS) ⟨by simp only; omega, by simp only [List.length_append, List.length_singleton]; omega, (fun y hy => by
                        rcases List.mem_append.1 hy with q | q
                        · exact hsub y q
                        · rw [List.mem_singleton] at q; subst q; exact hxm), s3, by simp only; rw [r3, hroom], by simp only; rw [u3, hu, framesB_one, List.length_append]; omega, by simp only; rw [g3, hbs, framesB_one], hD2, hG96, hA.snoc ⟨ai, ci, rfl, si⟩⟩ (by simp only; omega) (fun s hs => hs.tl [] 0)
        · try simp only [cnd] at hc2
          refine WX.exit ?_
          refine Fin.then_exit ?_
          refine Fin.loop_exit ?_
          refine Fin.block_hit rfl ?_
          refine Fin.then_normal ?_
          refine WX.seq ?_
          have hkm : ∀ y ∈ kept, y.length ≤ 1000000 := fun y hy => by have := (hx2 y (hsub y hy)).2; omega
          obtain ⟨D3, e3, s3, r3, u3, g3⟩ := open_calm hst (file := 63) (by decide) (l := kept) (by omega) hkm hbs
          have hrec := (recs_frames (l := kept) (by omega) hkm).1
          rw [← hbs] at hrec
          have hgl : (getF D.fs 63).bs.length ≤ 100000 := by rw [hbs]; omega
          refine WX.region rfl ?_
          refine WXL.move Met.none rfl ?_
          refine WXL.cl (O1 := dkO d bm D mx (lgO lg d 63 (kept.length : Nat) false :: (G ++ (N ++ B)))) Met.none rfl (fnOk_of Try.func30 (by decide +kernel)) rfl sub_ (open_good _ d bm D D3 mx 63 kept hD (fun g hg => hg.tail.app_right.app_left) hgl e3 hrec) (fun v O' hp => ?_)
          obtain ⟨mx3, lg3, a3, c3, vs3, G3, R3, rfl, hG3, hR3, rfl, hD3⟩ := hp
          refine WXL.move Met.none rfl ?_
          refine WXL.extract Met.none rfl rfl ?_
          refine WXL.extract Met.none rfl rfl ?_
          refine WXL.extract Met.none rfl rfl ?_
          refine WXL.assign Met.none rfl ?_
          refine WXL.assign Met.none rfl ?_
          refine WXL.assign Met.none rfl ?_
          refine WXL.nil ?_
          refine Fin.then_normal ?_
          refine WX.seq ?_
          refine WX.region rfl ?_
          refine WXL.cl (O1 := _) Met.none rfl (fnOk_of Try.func30 (by decide +kernel)) rfl (fun _ h => h) (openNil_ok _ 0) (fun v O' hp => ?_)
          obtain ⟨rfl, hO⟩ := hp
          subst O'
          refine WXL.move Met.none rfl ?_
          refine WXL.extract Met.none rfl rfl ?_
          refine WXL.extract Met.none rfl rfl ?_
          refine WXL.extract Met.none rfl rfl ?_
          refine WXL.assign Met.none rfl ?_
          refine WXL.assign Met.none rfl ?_
          refine WXL.assign Met.none rfl ?_
          refine WXL.nil ?_
          refine Fin.then_normal ?_
          refine WX.seq ?_
          refine WX.region rfl ?_
          refine WXL.move Met.none rfl ?_
          refine WXL.cl (O1 := dkO d bm D3 mx3 (lgO lg3 d 63 (kept.length : Nat) false :: (G3 ++ (R3 ++ (lgO lg d 63 (kept.length : Nat) false :: (G ++ (N ++ B))))))) Met.none rfl (fnOk_of Try.func30 (by decide +kernel)) rfl sub_ (open_bad _ d bm D3 D3 mx3 64 1 hD3 (fun g hg => hg.tail.app_right.app_right.tail.app_right.app_left) (by
          have h1 := used_get D3.fs 64
          rw [u3, hu] at h1
          omega) (open_far (by decide)) (by decide)) (fun v O' hp => ?_)
          obtain ⟨mx4, N4, rfl, rfl, hD4⟩ := hp
          refine WXL.move Met.none rfl ?_
          refine WXL.extract Met.none rfl rfl ?_
          refine WXL.extract Met.none rfl rfl ?_
          refine WXL.extract Met.none rfl rfl ?_
          refine WXL.assign Met.none rfl ?_
          refine WXL.assign Met.none rfl ?_
          refine WXL.assign Met.none rfl ?_
          refine WXL.nil ?_
          refine Fin.then_normal ?_
          refine WX.seq ?_
          refine WX.region rfl ?_
          refine WXL.move Met.none rfl ?_
          refine WXL.bin Met.none rfl rfl rfl ?_
          refine WXL.move Met.none rfl ?_
          refine WXL.split (d := 126) rfl (fun hg126 => ?_) (fun hg126 => ?_)
          · try simp only [cnd] at hg126
            refine WXL.move (Met.some rfl rfl rfl) rfl ?_
            refine WXL.bin (Met.some rfl rfl rfl) rfl rfl rfl ?_
            refine WXL.pick_t Met.none rfl rfl ?_
            refine WXL.move Met.none rfl ?_
            refine WXL.split (d := 130) rfl (fun hg130 => ?_) (fun hg130 => ?_)
            · try simp only [cnd] at hg130
              refine WXL.move (Met.some rfl rfl rfl) rfl ?_
              refine WXL.bin (Met.some rfl rfl rfl) rfl rfl rfl ?_
              refine WXL.pick_t Met.none rfl rfl ?_
              refine WXL.move Met.none rfl ?_
              refine WXL.split (d := 134) rfl (fun hg134 => ?_) (fun hg134 => ?_)
              · try simp only [cnd] at hg134
                refine WXL.move (Met.some rfl rfl rfl) rfl ?_
                refine WXL.move (Met.some rfl rfl rfl) rfl ?_
                refine WXL.cl (O1 := _) (Met.some rfl rfl rfl) rfl (fnOk_of Try.func17 (by decide +kernel)) rfl (fun _ h => h) (sameLists_ok _ kept kept vs3 vs a3 a c3 c (by omega) (fun y hy => by have := hkm y hy; omega) (Src.cons (Src.cons (Src.app (Src.cons hG3.src)))) (Src.cons (Src.cons (Src.app (Src.cons (Src.app (Src.app (Src.cons hG.src))))))) hR3.right.app.cons.app.cons.cons hA.app.app.cons.app.app.cons.app.cons.cons) (fun v O' hp => ?_)
                obtain ⟨bx, rfl, hbx, rfl⟩ := hp
                refine WXL.pick_t Met.none rfl rfl ?_
                refine WXL.move Met.none rfl ?_
                refine WXL.split (d := 139) rfl (fun hg139 => ?_) (fun hg139 => ?_)
                · try simp only [cnd] at hg139
                  refine WXL.move (Met.some rfl rfl rfl) rfl ?_
                  refine WXL.makeSlice (Met.some rfl rfl rfl) rfl rfl elem23 sz5 by5 zero5 (by omega) (by omega) (by omega) rfl (by decide) (rfl : (65537 : Int).toNat = 65537) (zerosL_map (fun n => .int .u8 n) 0 65537) (fun b141 => ?_)
                  refine WXL.cl (O1 := _) (Met.some rfl rfl rfl) rfl (fnOk_of Try.func32 (by decide +kernel)) rfl (fun _ h => h) (logLong_ok _ lg 65537 65537 _ (by decide)) (fun v O' hp => ?_)
                  obtain ⟨rfl, hO⟩ := hp
                  subst O'
                  refine WXL.bin (Met.some rfl rfl rfl) rfl rfl rfl ?_
                  refine WXL.pick_t Met.none rfl rfl ?_
                  refine WXL.move Met.none rfl ?_
                  refine WXL.split (d := 145) rfl (fun hg145 => ?_) (fun hg145 => ?_)
                  · try simp only [cnd] at hg145
                    refine WXL.cl (O1 := _) (Met.some rfl rfl rfl) rfl (fnOk_of Try.func18 (by decide +kernel)) rfl (fun _ h => h) (lives_ok _) (fun v O' hp => ?_)
                    obtain ⟨rfl, hO⟩ := hp
                    subst O'
                    refine WXL.pick_t Met.none rfl rfl ?_
                    refine WXL.assign Met.none rfl ?_
                    refine WXL.nil ?_
                    refine Fin.then_normal ?_
                    refine WX.ret ?_
                    exact Fin.result (O' := []) (.inr rfl) rfl rfl (fun _ hs => ⟨by simp, fun p hp => by simp at hp, hs.wf⟩) rfl
                  · try simp only [cnd] at hg145
                    exact (by simp at hg145) --end
                · try simp only [cnd] at hg139
                  exact (by rw [hg139] at hbx; simp at hbx) --end
              · try simp only [cnd] at hg134
                exact (by simp at hg134) --end
            · try simp only [cnd] at hg130
              exact (by simp at hg130) --end
          · try simp only [cnd] at hg126
            exact (by simp at hg126) --end

end Go.Proofs.Ythekokdpplobhaa.Eng
